/- The law QueryAll of package grommetlaw24 answers true and turns no argument, for all arguments that are together of bulk at most 1048576; condition: the listed package variables start as the program's text lays them. (part 15.) -/
import Derived.Test.YthcjadhoplakcaaGreatDoorAll14
import Derived.Lib.Builder
set_option linter.unusedSimpArgs false
set_option linter.unusedVariables false
set_option maxRecDepth 20000
set_option maxHeartbeats 1000000
namespace Go.Eng
section
variable {U : List (TypeId × TypeId)} {G : Nat → AV} {e : Env} {h : H}
def cvPO (l off : Nat) : Option AObj → Option AV
  | some (.cells cs _ _) => if off < cs.length then some (.ptr l off) else none
  | _ => none
def cvPV (h : H) : AV → Option AV
  | .nilp => some .nilp
  | .ptr l off => cvPO l off (h.get l)
  | _ => none
@[go_sem] theorem evQ_cvP (x : X) : evQ U G (.cvP x) e h = cvPV h (x.ev G e) := by
  simp only [evQ]
  cases x.ev G e with
  | ptr l off =>
    simp only [cvPV]
    cases h.get l with
    | none => rfl
    | some o => cases o <;> rfl
  | _ => rfl
@[go_sem] theorem cvPV_ptr (l off : Nat) : cvPV h (.ptr l off) = cvPO l off (h.get l) := nr rfl
@[go_sem] theorem cvPO_cells (l off : Nat) (cs : List AV) (t : TypeId) (f : Option Nat) : cvPO l off (some (.cells cs t f)) = if off < cs.length then some (.ptr l off) else none := nr rfl
def cvQO (U : List (TypeId × TypeId)) (u : TypeId) (l : Nat) : Option AObj → Option AV
  | some (.cells cs t _) => if 2 ≤ cs.length ∧ U.contains (t, u) = true then some (.ptr l 0) else none
  | _ => none
def cvQV (U : List (TypeId × TypeId)) (u : TypeId) (h : H) : AV → Option AV
  | .nilp => some .nilp
  | .ptr l 0 => cvQO U u l (h.get l)
  | _ => none
@[go_sem] theorem evQ_cvQ (u : TypeId) (x : X) : evQ U G (.cvQ u x) e h = cvQV U u h (x.ev G e) := by
  simp only [evQ]
  cases x.ev G e with
  | ptr l off =>
    cases off with
    | zero =>
      simp only [cvQV]
      cases h.get l with
      | none => rfl
      | some o => cases o <;> rfl
    | succ n => rfl
  | _ => rfl
@[go_sem] theorem cvQV_ptr (u : TypeId) (l : Nat) : cvQV U u h (.ptr l 0) = cvQO U u l (h.get l) := nr rfl
@[go_sem] theorem cvQO_cells (u : TypeId) (l : Nat) (cs : List AV) (t : TypeId) (f : Option Nat) : cvQO U u l (some (.cells cs t f)) = if 2 ≤ cs.length ∧ U.contains (t, u) = true then some (.ptr l 0) else none := nr rfl
def sdV : AV → Option AV
  | .nils => some .nilp
  | .sl l off _ _ cap _ => if 0 < cap then some (.ptr l off) else none
  | _ => none
@[go_sem] theorem evQ_sd (x : X) : evQ U G (.sd x) e h = sdV (x.ev G e) := by
  simp only [evQ]; cases x.ev G e <;> rfl
def usV (u : TypeId) (h : H) (a b : AV) : Option (AV × H) := match a, b with
  | .nilp, .int .i64 0 => some (.str [], h)
  | .ptr l off, .int .i64 n => if n = 0 then some (.str [], h) else if 0 < n ∧ n ≤ 9223372036854775807 then match h.get l with
      | some (.cells cs t fz) => if t = u then match sub cs off n.toNat with
          | some r => match bytesOf r with
            | some b => some (.str b, h.set l (.cells cs t (fz.map fun z => max z (off + n.toNat))))
            | none => none
          | none => none
        else none
      | _ => none
    else none
  | _, _ => none
@[go_sem] theorem evE_us (u : TypeId) (p n : X) : evE U G (.us u p n) e h = usV u h (p.ev G e) (n.ev G e) := nr rfl
@[go_sem] theorem usV_nil (u : TypeId) : usV u h .nilp (.int .i64 0) = some (.str [], h) := nr rfl
end
end Go.Eng
namespace Go.Eng.Tryz
open Go.Eng Go.Proofs Go.RowKit
theorem noEscape_ok (x : AV) : Puv 188 [x] x := by
  refine PureV.of_extern fun st w vs hvs => ?_
  obtain ⟨v, rfl, hv⟩ := open1 hvs
  refine ⟨v, ?_, hv⟩
  have h1 := Go.Proofs.Tryz.func188
  have h2 : (Go.Proofs.Tryz.f188.name == "runtime.NumGoroutine") = false := by kernel_rfl
  have h3 : Go.Proofs.Tryz.f188.body.isNone = true := by kernel_rfl
  have h4 : Extern.findNext Go.Proofs.Tryz.f188 = none := by kernel_rfl
  have h5 : Extern.find Go.Proofs.Tryz.f188 = some Extern.AbiNoEscape.same := by kernel_rfl
  have h2' : Go.Proofs.Tryz.f188.name ≠ "runtime.NumGoroutine" := by simpa using h2
  have h3' := Option.isNone_iff_eq_none.1 h3
  simp [callFunc, h1, h2', h3', h4, h5, mark, Lib.run_noEscape]
  rfl
theorem copyCheck_ok (h : H) (L : Nat) (t : TypeId) (a v : AV) (ht : (t, 190) ∈ U0) (hg : h.get L = some (.cells [a, v] t (some 0))) (ha : a = .nilp ∨ a = .ptr L 0) (hL : L < h.next) :
    Spc 153 [.ptr L 0] h fun r h' => r = .tup [] ∧ h'.next = h.next ∧ h'.get L = some (.cells [.ptr L 0, v] t (some 0)) ∧ ∀ j, ¬ j = L → h'.get j = h.get j := by
  refine sg ok153 rfl ?_
  have hno := noEscape_ok (.ptr L 0)
  rcases ha with rfl | rfl
  · repeat' (first | (simp (disch := omega) [go_sem, S153, *]) | (omega) | (with_reducible refine Br_dec (fun hp => ?_) (fun hp => ?_)) | (with_reducible refine Br_not ?_) | (with_reducible refine Br_bool (fun hp => ?_) (fun hp => ?_)) | (with_reducible refine bG_dec (fun hp => ?_) (fun hp => ?_)) | (with_reducible refine bG_bool' (fun hp => ?_) (fun hp => ?_)) | (refine bC_v hno ?_) | ((with_reducible refine Go_regD _ _ ?hn ?_); case hn => rfl) | ((with_reducible refine Go_regN _ _ ?hn ?_); case hn => rfl) | (with_reducible refine dE_some ?_ ?_) | (with_reducible refine dN_some ?_ ?_) | (with_reducible refine dN_some' ?_ ?_) | ((with_reducible refine Rd_dG ?hn _ _ _ _ _ ?_); case hn => rfl) | (with_reducible refine dG_dec (fun hp => ?_) (fun hp => ?_)) | (with_reducible refine dG_bool' (fun hp => ?_) (fun hp => ?_)) | (with_reducible refine Rd_nil' ?_))
    intro j hj; simp (disch := omega) [go_sem]
  · repeat' (first | (simp (disch := omega) [go_sem, S153, *]) | (omega) | (with_reducible refine Br_dec (fun hp => ?_) (fun hp => ?_)) | (with_reducible refine Br_not ?_) | (with_reducible refine Br_bool (fun hp => ?_) (fun hp => ?_)) | (with_reducible refine bG_dec (fun hp => ?_) (fun hp => ?_)) | (with_reducible refine bG_bool' (fun hp => ?_) (fun hp => ?_)) | (refine bC_v hno ?_) | ((with_reducible refine Go_regD _ _ ?hn ?_); case hn => rfl) | ((with_reducible refine Go_regN _ _ ?hn ?_); case hn => rfl) | (with_reducible refine dE_some ?_ ?_) | (with_reducible refine dN_some ?_ ?_) | (with_reducible refine dN_some' ?_ ?_) | ((with_reducible refine Rd_dG ?hn _ _ _ _ _ ?_); case hn => rfl) | (with_reducible refine dG_dec (fun hp => ?_) (fun hp => ?_)) | (with_reducible refine dG_bool' (fun hp => ?_) (fun hp => ?_)) | (with_reducible refine Rd_nil' ?_))
def IsB (h : H) (L : Nat) (t : TypeId) (bs : List Int) : Prop := ∃ a v, h.get L = some (.cells [a, v] t (some 0)) ∧ (a = .nilp ∨ a = .ptr L 0) ∧ L < h.next ∧ Els (L + 1) h v 1 5 (bs.map (AV.int .u8))
theorem okE_byte (n : Int) : okE 1 (.int .u8 n) := okE_leaf rfl
theorem okE_bytes (bs : List Int) : ∀ x ∈ bs.map (AV.int .u8), okE 1 x := fun x hx => by
  obtain ⟨n, _, rfl⟩ := List.mem_map.1 hx
  exact okE_byte n
theorem flat_bytes : ∀ (bs : List Int), (bs.map (AV.int .u8)).flatMap AV.cells = bs.map (AV.int .u8)
  | [] => rfl
  | b :: bs => by simp only [List.map_cons, List.flatMap_cons, flat_bytes bs]; rfl
theorem bytes_nat (s : List Nat) : (s.map fun n : Nat => AV.int .u8 n) = (s.map Int.ofNat).map (AV.int .u8) := by simp
theorem bE_appB {e : Env} {h : H} {lv : List Nat} {k : List Fr} {l : List O} {rs : List RV} {Ψ : AV → H → Prop} {B : Nat} {v : AV} {m : Nat} {es ns : List Int} {cs : List AV} {d : Option Nat} (hs : Els B h v 1 5 (es.map (AV.int .u8))) (hB : B ≤ h.next) (hc : cs = ns.map (AV.int .u8)) (hm : ns.length = m) (hr : es.length + m ≤ 140737488355328)
    (hk : ∀ v' h', h.next ≤ h'.next → (∀ j, j < B → h'.get j = h.get j) → Els B h' v' 1 5 ((es ++ ns).map (AV.int .u8)) → Rg Go.Proofs.Tryz.prog U0 G0 rs Ψ l (e.put d v') h' lv k) : bE Go.Proofs.Tryz.prog U0 G0 rs Ψ (evApp U0 1 1 5 v m cs h) d l e lv k := by
  subst hc
  by_cases h0 : m = 0
  · have : ns = [] := by simpa [← hm] using h0
    subst this
    have e1 : evApp U0 1 1 5 v m ([].map (AV.int .u8)) h = some (v, h) := by
      unfold evApp
      rw [if_pos h0]
      rcases hs.2 with ⟨rfl, _⟩ | ⟨l, rfl, _⟩ <;> simp
    rw [e1]
    exact hk v h (Nat.le_refl _) (fun _ _ => rfl) (by simpa using hs)
  · refine bE_apps hs hB (ns := ns.map (AV.int .u8)) (by simpa using hm) h0 (okE_bytes ns) (flat_bytes ns) (by simpa using hr) fun v' h' n1 n2 n3 => hk v' h' (by omega) n2 (by rw [List.map_append]; exact n3)
theorem WriteByte_ok (h : H) (L : Nat) (t : TypeId) (bs : List Int) (c : Int) (ht : (t, 190) ∈ U0) (hb : IsB h L t bs) (hl : bs.length < 140737488355328) :
    Spc 107 [.ptr L 0, .int .u8 c] h fun r h' => r = .nili ∧ h.next ≤ h'.next ∧ IsB h' L t (bs ++ [c]) ∧ ∀ j, j < L → h'.get j = h.get j := by
  obtain ⟨a, v, hg, ha, hL, hE⟩ := hb
  refine sg ok107 rfl ?_
  have hcc := copyCheck_ok h L t a v ht hg ha hL
  repeat' (first | (simp (disch := omega) [go_sem, S107, *]) | (omega) | (with_reducible refine Br_dec (fun hp => ?_) (fun hp => ?_)) | (with_reducible refine Br_not ?_) | (with_reducible refine Br_bool (fun hp => ?_) (fun hp => ?_)) | (with_reducible refine bG_dec (fun hp => ?_) (fun hp => ?_)) | (with_reducible refine bG_bool' (fun hp => ?_) (fun hp => ?_)) | (refine bC_spec hcc fun v h2 hv => ?_; obtain ⟨rfl, m1, m2, m3⟩ := hv) | (refine bE_appB (B := L + 1) (ns := [c]) (hE.same (by simp [go_sem] <;> omega) (fun j h1 h3 => by simp (disch := omega) [go_sem]; exact m3 j (by omega))) (by simp [go_sem] <;> omega) rfl rfl (by omega) fun v' h3 n1 n2 n3 => ?_; have n4 : h3.get L = some (.cells [.ptr L 0, v] t (some 0)) := (by rw [n2 L (by omega)]; simp (disch := omega) [go_sem]; exact m2); obtain ⟨n5, n6, n7⟩ := n3.elt; simp only [go_sem] at n1) | ((with_reducible refine Go_regD _ _ ?hn ?_); case hn => rfl) | ((with_reducible refine Go_regN _ _ ?hn ?_); case hn => rfl) | (with_reducible refine dE_some ?_ ?_) | (with_reducible refine dN_some ?_ ?_) | (with_reducible refine dN_some' ?_ ?_) | ((with_reducible refine Rd_dG ?hn _ _ _ _ _ ?_); case hn => rfl) | (with_reducible refine dG_dec (fun hp => ?_) (fun hp => ?_)) | (with_reducible refine dG_bool' (fun hp => ?_) (fun hp => ?_)) | (with_reducible refine Rd_nil' ?_))
  refine ⟨by omega, ⟨.ptr L 0, v', by simp (disch := omega) [go_sem], .inr rfl, by simp [go_sem] <;> omega, ?_⟩, fun j hj => ?_⟩
  · exact n3.same (by simp [go_sem]) fun j h1 h2 => by simp (disch := omega) [go_sem]
  · simp (disch := omega) [go_sem]
    rw [n2 j (by omega)]
    simp (disch := omega) [go_sem]
    exact m3 j (by omega)
theorem WriteString_ok (h : H) (L : Nat) (t : TypeId) (bs : List Int) (s : List Nat) (ht : (t, 190) ∈ U0) (hb : IsB h L t bs) (hl : bs.length + s.length ≤ 140737488355328) :
    Spc 108 [.ptr L 0, .str s] h fun r h' => h.next ≤ h'.next ∧ IsB h' L t (bs ++ s.map Int.ofNat) ∧ ∀ j, j < L → h'.get j = h.get j := by
  obtain ⟨a, v, hg, ha, hL, hE⟩ := hb
  refine sg ok108 rfl ?_
  have hcc := copyCheck_ok h L t a v ht hg ha hL
  repeat' (first | (simp (disch := omega) [go_sem, S108, *]) | (omega) | (with_reducible refine Br_dec (fun hp => ?_) (fun hp => ?_)) | (with_reducible refine Br_not ?_) | (with_reducible refine Br_bool (fun hp => ?_) (fun hp => ?_)) | (with_reducible refine bG_dec (fun hp => ?_) (fun hp => ?_)) | (with_reducible refine bG_bool' (fun hp => ?_) (fun hp => ?_)) | (refine bC_spec hcc fun v h2 hv => ?_; obtain ⟨rfl, m1, m2, m3⟩ := hv) | (refine bE_appB (B := L + 1) (ns := s.map Int.ofNat) (hE.same (by omega) (fun j h1 h3 => m3 j (by omega))) (by omega) (bytes_nat s) (by simp) (by omega) fun v' h3 n1 n2 n3 => ?_; have n4 : h3.get L = some (.cells [.ptr L 0, v] t (some 0)) := (by rw [n2 L (by omega)]; exact m2); obtain ⟨n5, n6, n7⟩ := n3.elt) | ((with_reducible refine Go_regD _ _ ?hn ?_); case hn => rfl) | ((with_reducible refine Go_regN _ _ ?hn ?_); case hn => rfl) | (with_reducible refine dE_some ?_ ?_) | (with_reducible refine dN_some ?_ ?_) | (with_reducible refine dN_some' ?_ ?_) | ((with_reducible refine Rd_dG ?hn _ _ _ _ _ ?_); case hn => rfl) | (with_reducible refine dG_dec (fun hp => ?_) (fun hp => ?_)) | (with_reducible refine dG_bool' (fun hp => ?_) (fun hp => ?_)) | (with_reducible refine Rd_nil' ?_))
  refine ⟨by omega, ⟨.ptr L 0, v', by simp (disch := omega) [go_sem], .inr rfl, by simp [go_sem] <;> omega, ?_⟩, fun j hj => ?_⟩
  · exact n3.same (by simp [go_sem]) fun j h1 h2 => by simp (disch := omega) [go_sem]
  · simp (disch := omega) [go_sem]
    rw [n2 j (by omega)]
    exact m3 j (by omega)
def strB (bs : List Int) : List Nat := bs.map fun n => (UInt8.ofNat n.toNat).toNat
theorem bytesOf_ints : ∀ (bs : List Int), bytesOf (bs.map (AV.int .u8)) = some (strB bs)
  | [] => rfl
  | b :: bs => by simp only [List.map_cons, bytesOf, bytesOf_ints bs]; rfl
theorem String_ok (h : H) (L : Nat) (t : TypeId) (bs : List Int) (hb : IsB h L t bs) (hl : bs.length ≤ 140737488355328) :
    Spc 109 [.ptr L 0] h fun r h' => r = .str (strB bs) ∧ h.next ≤ h'.next ∧ ∀ j, j < L → h'.get j = h.get j := by
  obtain ⟨a, v, hg, ha, hL, hE⟩ := hb
  refine sg ok109 rfl ?_
  rcases hE with ⟨h1, ⟨rfl, h2⟩ | ⟨l, rfl, h2, h3, h4, h5⟩⟩
  · have : bs = [] := by simpa using h2
    subst this
    repeat' (first | (simp (disch := omega) [go_sem, S109, sdV, lenV, strB, *]) | (omega) | (with_reducible refine Br_dec (fun hp => ?_) (fun hp => ?_)) | (with_reducible refine Br_not ?_) | (with_reducible refine Br_bool (fun hp => ?_) (fun hp => ?_)) | (with_reducible refine bG_dec (fun hp => ?_) (fun hp => ?_)) | (with_reducible refine bG_bool' (fun hp => ?_) (fun hp => ?_)) | ((with_reducible refine Go_regD _ _ ?hn ?_); case hn => rfl) | ((with_reducible refine Go_regN _ _ ?hn ?_); case hn => rfl) | (with_reducible refine dE_some ?_ ?_) | (with_reducible refine dN_some ?_ ?_) | (with_reducible refine dN_some' ?_ ?_) | ((with_reducible refine Rd_dG ?hn _ _ _ _ _ ?_); case hn => rfl) | (with_reducible refine dG_dec (fun hp => ?_) (fun hp => ?_)) | (with_reducible refine dG_bool' (fun hp => ?_) (fun hp => ?_)) | (with_reducible refine Rd_nil' ?_))
  · rw [flat_bytes] at h5
    have h6 : bs ≠ [] := by simpa using h4
    have h7 : 0 < bs.length := List.length_pos_iff.2 h6
    have h8 := bytesOf_ints bs
    have h9 : usV 5 h (.ptr l 0) (.int .i64 bs.length) = some (.str (strB bs), h.set l (.cells (bs.map (AV.int .u8)) 5 (some bs.length))) := by
      simp only [usV]
      rw [if_neg (by omega), if_pos (by omega), h5]
      have : sub (bs.map (AV.int .u8)) 0 bs.length = some (bs.map (AV.int .u8)) := by
        have e1 : (bs.map (AV.int .u8)).take bs.length = bs.map (AV.int .u8) := List.take_of_length_le (by simp)
        simp [sub, e1]
      simp [this, h8]
    rw [List.length_map] at hg
    repeat' (first | (simp (disch := omega) [go_sem, S109, sdV, lenV, *]) | (omega) | (with_reducible refine Br_dec (fun hp => ?_) (fun hp => ?_)) | (with_reducible refine Br_not ?_) | (with_reducible refine Br_bool (fun hp => ?_) (fun hp => ?_)) | (with_reducible refine bG_dec (fun hp => ?_) (fun hp => ?_)) | (with_reducible refine bG_bool' (fun hp => ?_) (fun hp => ?_)) | (refine ⟨?_, ?_⟩) | ((with_reducible refine Go_regD _ _ ?hn ?_); case hn => rfl) | ((with_reducible refine Go_regN _ _ ?hn ?_); case hn => rfl) | (with_reducible refine dE_some ?_ ?_) | (with_reducible refine dN_some ?_ ?_) | (with_reducible refine dN_some' ?_ ?_) | ((with_reducible refine Rd_dG ?hn _ _ _ _ _ ?_); case hn => rfl) | (with_reducible refine dG_dec (fun hp => ?_) (fun hp => ?_)) | (with_reducible refine dG_bool' (fun hp => ?_) (fun hp => ?_)) | (with_reducible refine Rd_nil' ?_))
    intro j hj
    simp (disch := omega) [go_sem]
end Go.Eng.Tryz
set_option maxRecDepth 20000
set_option maxHeartbeats 1000000
namespace Go.Eng.Tryz
open Go.Eng Go.Proofs Go.RowKit
/-! ### signs -/
theorem decW_len : ∀ (f : Nat) (s : List Nat) (i : Nat), (decW f s i).1.length ≤ f
  | 0, s, i => by simp [decW]
  | f + 1, s, i => by
    unfold decW
    split
    · split
      · simp
      · simp only [List.length_cons]; have := decW_len f s (i + widthR (s.drop i)); omega
    · simp
theorem decW_le : ∀ (f : Nat) (s : List Nat) (i : Nat), ∀ x ∈ (decW f s i).1, x ≤ 1114111
  | 0, s, i, x, hx => by simp [decW] at hx
  | f + 1, s, i, x, hx => by
    have h1 : firstR (s.drop i) ≤ 1114111 := by
      have := decR_le (s.drop i)
      unfold firstR; split <;> omega
    unfold decW at hx
    split at hx
    · split at hx
      · simp at hx; omega
      · simp only [List.mem_cons] at hx
        rcases hx with rfl | hx
        · exact h1
        · exact decW_le f s _ x hx
    · simp at hx
theorem decW_pos : ∀ (f : Nat) (s : List Nat) (i : Nat), s.length ≤ (decW f s i).2 → ∀ x ∈ (decW f s i).1, 0 ≤ x
  | 0, s, i, _, x, hx => by simp [decW] at hx
  | f + 1, s, i, he, x, hx => by
    unfold decW at hx he
    split at hx
    · rename_i hi
      rw [if_pos hi] at he
      split at hx
      · rename_i hb
        rw [if_pos hb] at he
        simp only at he; omega
      · rename_i hb
        rw [if_neg hb] at he
        simp only [List.mem_cons] at hx
        rcases hx with rfl | hx
        · omega
        · exact decW_pos f s _ he x hx
    · simp at hx
theorem signs_len (s : List Nat) : (decSigns s).length ≤ s.length := by
  unfold decSigns
  split
  · have := decW_len (s.length - 0) s 0; unfold decT; omega
  · simp
theorem signs_range {s : List Nat} (h : decOk s = true) : ∀ x ∈ decSigns s, 0 ≤ x ∧ x ≤ 1114111 := by
  intro x hx
  unfold decSigns at hx
  rw [if_pos h] at hx
  unfold decOk at h
  exact ⟨decW_pos _ s 0 (of_decide_eq_true h) x hx, decW_le _ s 0 x hx⟩
/-! ### what is written of a sign -/
def shortR (s : Int) : Int := if s = 34 then 34 else if s = 92 then 92 else if s = 10 then 110 else if s = 9 then 116 else if s = 13 then 114 else if s = 0 then 48 else 0
theorem short_ok (s : Int) : Puv 225 [.int .i64 s] (.int .u8 (shortR s)) := by
  refine pv ok225 rfl rfl fun h => ?_
  repeat' (first | (simp (disch := omega) [go_sem, S225, shortR, *]) | (omega) | (with_reducible refine Br_dec (fun hp => ?_) (fun hp => ?_)) | (with_reducible refine Br_not ?_) | (with_reducible refine Br_bool (fun hp => ?_) (fun hp => ?_)) | (with_reducible refine bG_dec (fun hp => ?_) (fun hp => ?_)) | (with_reducible refine bG_bool' (fun hp => ?_) (fun hp => ?_)) | ((with_reducible refine Go_regD _ _ ?hn ?_); case hn => rfl) | ((with_reducible refine Go_regN _ _ ?hn ?_); case hn => rfl) | (with_reducible refine dE_some ?_ ?_) | (with_reducible refine dN_some ?_ ?_) | (with_reducible refine dN_some' ?_ ?_) | ((with_reducible refine Rd_dG ?hn _ _ _ _ _ ?_); case hn => rfl) | (with_reducible refine dG_dec (fun hp => ?_) (fun hp => ?_)) | (with_reducible refine dG_bool' (fun hp => ?_) (fun hp => ?_)) | (with_reducible refine Rd_nil' ?_))
def printR (s : Int) : Bool := if s < 32 then decide (s = 9) || decide (s = 10) || decide (s = 13) else if s < 127 then true else if s < 160 then decide (s = 133) else if s < 55296 then true else if s < 65536 then decide (57344 ≤ s) && decide (s ≤ 65533) && decide (¬ s = 65279) else decide (s ≤ 1114111)
theorem Printable_ok (s : Int) : Puv 252 [.int .i64 s] (.bool (printR s)) := by
  refine pv ok252 rfl rfl fun h => ?_
  repeat' (first | (simp (disch := omega) [go_sem, S252, printR, *]) | (omega) | (with_reducible refine Br_dec (fun hp => ?_) (fun hp => ?_)) | (with_reducible refine Br_not ?_) | (with_reducible refine Br_bool (fun hp => ?_) (fun hp => ?_)) | (with_reducible refine bG_dec (fun hp => ?_) (fun hp => ?_)) | (with_reducible refine bG_bool' (fun hp => ?_) (fun hp => ?_)) | ((with_reducible refine Go_regD _ _ ?hn ?_); case hn => rfl) | ((with_reducible refine Go_regN _ _ ?hn ?_); case hn => rfl) | (with_reducible refine dE_some ?_ ?_) | (with_reducible refine dN_some ?_ ?_) | (with_reducible refine dN_some' ?_ ?_) | ((with_reducible refine Rd_dG ?hn _ _ _ _ _ ?_); case hn => rfl) | (with_reducible refine dG_dec (fun hp => ?_) (fun hp => ?_)) | (with_reducible refine dG_bool' (fun hp => ?_) (fun hp => ?_)) | (with_reducible refine Rd_nil' ?_))
def mayR (s : Int) : Bool := printR s && decide (¬ s = 9) && decide (¬ s = 10) && decide (¬ s = 13)
theorem may_ok (s : Int) : Puv 226 [.int .i64 s] (.bool (mayR s)) := by
  refine pv ok226 rfl rfl fun h => ?_
  cases hp : printR s <;> repeat' (first | (simp (disch := omega) [go_sem, S226, mayR, *]) | (omega) | (with_reducible refine Br_dec (fun hp => ?_) (fun hp => ?_)) | (with_reducible refine Br_not ?_) | (with_reducible refine Br_bool (fun hp => ?_) (fun hp => ?_)) | (with_reducible refine bG_dec (fun hp => ?_) (fun hp => ?_)) | (with_reducible refine bG_bool' (fun hp => ?_) (fun hp => ?_)) | (refine bC_v (Printable_ok s) ?_) | ((with_reducible refine Go_regD _ _ ?hn ?_); case hn => rfl) | ((with_reducible refine Go_regN _ _ ?hn ?_); case hn => rfl) | (with_reducible refine dE_some ?_ ?_) | (with_reducible refine dN_some ?_ ?_) | (with_reducible refine dN_some' ?_ ?_) | ((with_reducible refine Rd_dG ?hn _ _ _ _ _ ?_); case hn => rfl) | (with_reducible refine dG_dec (fun hp => ?_) (fun hp => ?_)) | (with_reducible refine dG_bool' (fun hp => ?_) (fun hp => ?_)) | (with_reducible refine Rd_nil' ?_))
/-! ### runes are written -/
def andI (k : IntKind) (a b : Int) : Int := k.wrap (BitVec.ofInt k.bits a &&& BitVec.ofInt k.bits b).toNat
def orI (k : IntKind) (a b : Int) : Int := k.wrap (BitVec.ofInt k.bits a ||| BitVec.ofInt k.bits b).toNat
def shrI (k : IntKind) (a b : Int) : Int := a.fdiv (2 ^ (min b.toNat k.bits))
theorem evBin_andI (h : H) (c : Ck) (k : IntKind) (a b : Int) : evBin h .and c (.int k a) (.int k b) = some (.int k (andI k a b)) := evBin_and c k a b
theorem evBin_orI (h : H) (c : Ck) (k : IntKind) (a b : Int) : evBin h .or c (.int k a) (.int k b) = some (.int k (orI k a b)) := evBin_or c k a b
theorem evBin_shrI (h : H) (c : Ck) (k k' : IntKind) (a b : Int) (hb : 0 ≤ b) : evBin h .shr c (.int k a) (.int k' b) = some (.int k (shrI k a b)) := by
  rw [evBin_shr]; unfold evShift; rw [if_neg (by omega)]; rfl
def Grown (B : Nat) (h h' : H) (v' : AV) (bs : List Int) : Prop := ∃ ns : List Int, ns.length ≤ 4 ∧ h.next ≤ h'.next ∧ (∀ j, j < B → h'.get j = h.get j) ∧ Els B h' v' 1 5 ((bs ++ ns).map (AV.int .u8))
theorem Grown.of {h : H} {B : Nat} {cs : List AV} {h' : H} {v' : AV} {bs ns : List Int} (hB : B ≤ h.next) (n0 : ns.length ≤ 4) (n1 : (h.add h.next (.cells cs 5 (some 0))).next ≤ h'.next) (n2 : ∀ j, j < B → h'.get j = (h.add h.next (.cells cs 5 (some 0))).get j) (n3 : Els B h' v' 1 5 ((bs ++ ns).map (AV.int .u8))) : Grown B h h' v' bs :=
  ⟨ns, n0, by simp only [go_sem] at n1; omega, fun j hj => by rw [n2 j hj]; simp (disch := omega) [go_sem], n3⟩
theorem appendNA_ok (h : H) (B : Nat) (v : AV) (bs : List Int) (r : Int) (hE : Els B h v 1 5 (bs.map (AV.int .u8))) (hB : B ≤ h.next) (hl : bs.length ≤ 1099511627776) :
    Spc 271 [v, .int .i32 r] h fun v' h' => Grown B h h' v' bs := by
  refine sg ok271 rfl ?_
  have hsame : ∀ cs : List AV, Els B (h.add h.next (.cells cs 5 (some 0))) v 1 5 (bs.map (AV.int .u8)) := fun cs => hE.same (by simp [go_sem]) fun j h1 h2 => by simp (disch := omega) [go_sem]
  repeat' (first | (simp (disch := omega) [go_sem, S271, evBin_andI, evBin_orI, evBin_shrI, *]) | (omega) | (with_reducible refine Br_dec (fun hp => ?_) (fun hp => ?_)) | (with_reducible refine Br_not ?_) | (with_reducible refine Br_bool (fun hp => ?_) (fun hp => ?_)) | (with_reducible refine bG_dec (fun hp => ?_) (fun hp => ?_)) | (with_reducible refine bG_bool' (fun hp => ?_) (fun hp => ?_)) | (exact Grown.of hB (by simp) n1 n2 n3) | (refine bE_appB (B := B) (ns := [_, _]) (hsame _) (by simp [go_sem] <;> omega) rfl rfl (by omega) fun v' h3 n1 n2 n3 => ?_) | (refine bE_appB (B := B) (ns := [_, _, _]) (hsame _) (by simp [go_sem] <;> omega) rfl rfl (by omega) fun v' h3 n1 n2 n3 => ?_) | (refine bE_appB (B := B) (ns := [_, _, _, _]) (hsame _) (by simp [go_sem] <;> omega) rfl rfl (by omega) fun v' h3 n1 n2 n3 => ?_) | ((with_reducible refine Go_regD _ _ ?hn ?_); case hn => rfl) | ((with_reducible refine Go_regN _ _ ?hn ?_); case hn => rfl) | (with_reducible refine dE_some ?_ ?_) | (with_reducible refine dN_some ?_ ?_) | (with_reducible refine dN_some' ?_ ?_) | ((with_reducible refine Rd_dG ?hn _ _ _ _ _ ?_); case hn => rfl) | (with_reducible refine dG_dec (fun hp => ?_) (fun hp => ?_)) | (with_reducible refine dG_bool' (fun hp => ?_) (fun hp => ?_)) | (with_reducible refine Rd_nil' ?_))
theorem AppendRune_ok (h : H) (B : Nat) (v : AV) (bs : List Int) (r : Int) (hE : Els B h v 1 5 (bs.map (AV.int .u8))) (hB : B ≤ h.next) (hl : bs.length ≤ 1099511627776) :
    Spc 253 [v, .int .i32 r] h fun v' h' => Grown B h h' v' bs := by
  refine sg ok253 rfl ?_
  have hsame : ∀ cs : List AV, Els B (h.add h.next (.cells cs 5 (some 0))) v 1 5 (bs.map (AV.int .u8)) := fun cs => hE.same (by simp [go_sem]) fun j h1 h2 => by simp (disch := omega) [go_sem]
  have hna := appendNA_ok h B v bs r hE hB hl
  repeat' (first | (simp (disch := omega) [go_sem, S253, *]) | (omega) | (with_reducible refine Br_dec (fun hp => ?_) (fun hp => ?_)) | (with_reducible refine Br_not ?_) | (with_reducible refine Br_bool (fun hp => ?_) (fun hp => ?_)) | (with_reducible refine bG_dec (fun hp => ?_) (fun hp => ?_)) | (with_reducible refine bG_bool' (fun hp => ?_) (fun hp => ?_)) | (exact Grown.of hB (by simp) n1 n2 n3) | (refine bE_appB (B := B) (ns := [_]) (hsame _) (by simp [go_sem] <;> omega) rfl rfl (by omega) fun v' h3 n1 n2 n3 => ?_) | (refine bC_spec hna fun v h2 hv => ?_) | (exact hv) | ((with_reducible refine Go_regD _ _ ?hn ?_); case hn => rfl) | ((with_reducible refine Go_regN _ _ ?hn ?_); case hn => rfl) | (with_reducible refine dE_some ?_ ?_) | (with_reducible refine dN_some ?_ ?_) | (with_reducible refine dN_some' ?_ ?_) | ((with_reducible refine Rd_dG ?hn _ _ _ _ _ ?_); case hn => rfl) | (with_reducible refine dG_dec (fun hp => ?_) (fun hp => ?_)) | (with_reducible refine dG_bool' (fun hp => ?_) (fun hp => ?_)) | (with_reducible refine Rd_nil' ?_))
theorem WriteRune_ok (h : H) (L : Nat) (t : TypeId) (bs : List Int) (r : Int) (ht : (t, 190) ∈ U0) (hb : IsB h L t bs) (hl : bs.length ≤ 1099511627776) :
    Spc 227 [.ptr L 0, .int .i32 r] h fun v h' => h.next ≤ h'.next ∧ (∃ ns : List Int, ns.length ≤ 4 ∧ IsB h' L t (bs ++ ns)) ∧ ∀ j, j < L → h'.get j = h.get j := by
  obtain ⟨a, v, hg, ha, hL, hE⟩ := hb
  refine sg ok227 rfl ?_
  have hcc := copyCheck_ok h L t a v ht hg ha hL
  have hlen := hE.len
  have har : ∀ h2 : H, h2.next = h.next → (∀ j, ¬ j = L → h2.get j = h.get j) → Spc 253 [v, .int .i32 r] h2 fun v' h' => Grown (L + 1) h2 h' v' bs := fun h2 m1 m3 => AppendRune_ok h2 (L + 1) v bs r (hE.same (by omega) fun j h1 h2 => m3 j (by omega)) (by omega) hl
  repeat' (first | (simp (disch := omega) [go_sem, S227, *]) | (omega) | (with_reducible refine Br_dec (fun hp => ?_) (fun hp => ?_)) | (with_reducible refine Br_not ?_) | (with_reducible refine Br_bool (fun hp => ?_) (fun hp => ?_)) | (with_reducible refine bG_dec (fun hp => ?_) (fun hp => ?_)) | (with_reducible refine bG_bool' (fun hp => ?_) (fun hp => ?_)) | (refine bC_spec hcc fun v h2 hv => ?_; obtain ⟨rfl, m1, m2, m3⟩ := hv; have hlen2 := (hE.same (h' := h2) (by omega) fun j h1 h2 => m3 j (by omega)).len) | (refine bC_spec (har _ m1 m3) fun v' h3 hv => ?_; obtain ⟨ns, n0, n1, n2, n3⟩ := hv; have n4 : h3.get L = some (.cells [.ptr L 0, v] t (some 0)) := (by rw [n2 L (by omega)]; exact m2); obtain ⟨n5, n6, n7⟩ := n3.elt; have n8 := (n3.same (h' := h3.set L (.cells [.ptr L 0, v'] t (some 0))) (by simp [go_sem]) fun j h1 h2 => by simp (disch := omega) [go_sem]).len) | ((with_reducible refine Go_regD _ _ ?hn ?_); case hn => rfl) | ((with_reducible refine Go_regN _ _ ?hn ?_); case hn => rfl) | (with_reducible refine dE_some ?_ ?_) | (with_reducible refine dN_some ?_ ?_) | (with_reducible refine dN_some' ?_ ?_) | ((with_reducible refine Rd_dG ?hn _ _ _ _ _ ?_); case hn => rfl) | (with_reducible refine dG_dec (fun hp => ?_) (fun hp => ?_)) | (with_reducible refine dG_bool' (fun hp => ?_) (fun hp => ?_)) | (with_reducible refine Rd_nil' ?_))
  refine ⟨by omega, ⟨ns, n0, .ptr L 0, v', by simp (disch := omega) [go_sem], .inr rfl, by simp [go_sem] <;> omega, ?_⟩, fun j hj => ?_⟩
  · exact n3.same (by simp [go_sem]) fun j h1 h2 => by simp (disch := omega) [go_sem]
  · simp (disch := omega) [go_sem]
    rw [n2 j (by omega)]
    exact m3 j (by omega)
end Go.Eng.Tryz
set_option maxRecDepth 20000
set_option maxHeartbeats 1000000
namespace Go.Eng
section
variable {U : List (TypeId × TypeId)} {G : Nat → AV} {e : Env} {h : H}
def sAV (n sz : Nat) (h : H) (x : AV) (lo hi : Option AV) : Option AV := match x with
  | .ptr l off => match h.get l with
    | some (.cells cs _ _) => if off + n * sz ≤ cs.length then cutO l off sz n n true lo hi none else none
    | _ => none
  | _ => none
@[go_sem] theorem evQ_sA (n sz : Nat) (x : X) (lo hi : Option X) : evQ U G (.sA n sz x lo hi) e h = sAV n sz h (x.ev G e) (lo.map (·.ev G e)) (hi.map (·.ev G e)) := nr rfl
def cvBV (h : H) (x : AV) : Option AV := match x with
  | .nils => some (.str [])
  | v => match srcOf h 1 v with
    | some (_, cs) => match bytesOf cs with
      | some l => some (.str l)
      | none => none
    | none => none
@[go_sem] theorem evQ_cvB (x : X) : evQ U G (.cvB x) e h = cvBV h (x.ev G e) := nr rfl
@[go_sem] theorem evQ_neg (x : X) (k : IntKind) (n : Int) (hx : x.ev G e = .int k n) : evQ U G (.un .neg x) e h = some (.int k (wr k (0 - n))) := by simp [evQ, hx]
end
end Go.Eng
namespace Go.Eng.Tryz
open Go.Eng Go.Proofs Go.RowKit
theorem pow2_ok : Puv 247 [.int .i64 16] (.bool true) := by
  refine pv ok247 rfl rfl fun h => ?_
  have e1 : andI .i64 16 15 = 0 := by decide
  repeat' (first | (simp (disch := omega) [go_sem, S247, evBin_andI, *]) | (omega) | (with_reducible refine Br_dec (fun hp => ?_) (fun hp => ?_)) | (with_reducible refine Br_not ?_) | (with_reducible refine Br_bool (fun hp => ?_) (fun hp => ?_)) | (with_reducible refine bG_dec (fun hp => ?_) (fun hp => ?_)) | (with_reducible refine bG_bool' (fun hp => ?_) (fun hp => ?_)) | ((with_reducible refine Go_regD _ _ ?hn ?_); case hn => rfl) | ((with_reducible refine Go_regN _ _ ?hn ?_); case hn => rfl) | (with_reducible refine dE_some ?_ ?_) | (with_reducible refine dN_some ?_ ?_) | (with_reducible refine dN_some' ?_ ?_) | ((with_reducible refine Rd_dG ?hn _ _ _ _ _ ?_); case hn => rfl) | (with_reducible refine dG_dec (fun hp => ?_) (fun hp => ?_)) | (with_reducible refine dG_bool' (fun hp => ?_) (fun hp => ?_)) | (with_reducible refine Rd_nil' ?_))
theorem tz64_ok : Puv 268 [.int .u64 16] (.int .i64 4) := by
  refine pv ok268 rfl rfl fun h => ?_
  have e1 : andI .u64 16 (wr .u64 (-16)) = 16 := by decide
  have e3 : shrI .u64 4573923408821661840 58 = 15 := by decide
  repeat' (first | (simp (disch := omega) [go_sem, S268, evBin_andI, evBin_shrI, G0, bruijn64L, *]) | (omega) | (with_reducible refine Br_dec (fun hp => ?_) (fun hp => ?_)) | (with_reducible refine Br_not ?_) | (with_reducible refine Br_bool (fun hp => ?_) (fun hp => ?_)) | (with_reducible refine bG_dec (fun hp => ?_) (fun hp => ?_)) | (with_reducible refine bG_bool' (fun hp => ?_) (fun hp => ?_)) | ((with_reducible refine Go_regD _ _ ?hn ?_); case hn => rfl) | ((with_reducible refine Go_regN _ _ ?hn ?_); case hn => rfl) | (with_reducible refine dE_some ?_ ?_) | (with_reducible refine dN_some ?_ ?_) | (with_reducible refine dN_some' ?_ ?_) | ((with_reducible refine Rd_dG ?hn _ _ _ _ _ ?_); case hn => rfl) | (with_reducible refine dG_dec (fun hp => ?_) (fun hp => ?_)) | (with_reducible refine dG_bool' (fun hp => ?_) (fun hp => ?_)) | (with_reducible refine Rd_nil' ?_))
theorem tz_ok : Puv 248 [.int .u64 16] (.int .i64 4) := by
  refine pv ok248 rfl rfl fun h => ?_
  repeat' (first | (simp (disch := omega) [go_sem, S248, *]) | (omega) | (with_reducible refine Br_dec (fun hp => ?_) (fun hp => ?_)) | (with_reducible refine Br_not ?_) | (with_reducible refine Br_bool (fun hp => ?_) (fun hp => ?_)) | (with_reducible refine bG_dec (fun hp => ?_) (fun hp => ?_)) | (with_reducible refine bG_bool' (fun hp => ?_) (fun hp => ?_)) | (refine bC_v tz64_ok ?_) | ((with_reducible refine Go_regD _ _ ?hn ?_); case hn => rfl) | ((with_reducible refine Go_regN _ _ ?hn ?_); case hn => rfl) | (with_reducible refine dE_some ?_ ?_) | (with_reducible refine dN_some ?_ ?_) | (with_reducible refine dN_some' ?_ ?_) | ((with_reducible refine Rd_dG ?hn _ _ _ _ _ ?_); case hn => rfl) | (with_reducible refine dG_dec (fun hp => ?_) (fun hp => ?_)) | (with_reducible refine dG_bool' (fun hp => ?_) (fun hp => ?_)) | (with_reducible refine Rd_nil' ?_))
def digs : List Nat := [48,49,50,51,52,53,54,55,56,57,97,98,99,100,101,102,103,104,105,106,107,108,109,110,111,112,113,114,115,116,117,118,119,120,121,122]
theorem and15 (u : Int) (h0 : 0 ≤ u) (h1 : u < 18446744073709551616) : 0 ≤ andI .u64 u 15 ∧ andI .u64 u 15 < 16 := by
  have : ((BitVec.ofInt 64 u &&& BitVec.ofInt 64 15).toNat : Int) < 16 := by
    have h2 : (BitVec.ofInt 64 u &&& BitVec.ofInt 64 15).toNat ≤ (BitVec.ofInt 64 15).toNat := by
      rw [BitVec.toNat_and]; exact Nat.and_le_right
    have h3 : (BitVec.ofInt 64 15).toNat = 15 := by decide
    omega
  unfold andI
  show 0 ≤ IntKind.u64.wrap _ ∧ _
  have e1 : IntKind.u64.wrap ((BitVec.ofInt 64 u &&& BitVec.ofInt 64 15).toNat : Int) = wr .u64 ((BitVec.ofInt 64 u &&& BitVec.ofInt 64 15).toNat : Int) := rfl
  show 0 ≤ IntKind.u64.wrap ((BitVec.ofInt 64 u &&& BitVec.ofInt 64 15).toNat : Int) ∧ IntKind.u64.wrap ((BitVec.ofInt 64 u &&& BitVec.ofInt 64 15).toNat : Int) < 16
  rw [e1, wr_u64 (by omega) (by omega)]
  omega
theorem shr4 (u : Int) (h0 : 0 ≤ u) : shrI .u64 u 4 = u / 16 := by
  unfold shrI
  show u.fdiv (2 ^ (min 4 64)) = _
  rw [Int.fdiv_eq_ediv_of_nonneg _ (by decide)]
  rfl
theorem dig_at (n : Int) (h0 : 0 ≤ n) (h1 : n < 16) : ∃ b, digs[n.toNat]? = some b := ⟨_, List.getElem?_eq_getElem (show n.toNat < digs.length by simp [digs]; omega)⟩
theorem cut65 (h : H) (L : Nat) (zs : List Int) (i : Int) (hg : h.get L = some (.cells (zs.map (AV.int .u8)) 341 (some 0))) (hz : zs.length = 65) (h0 : 0 ≤ i) (h1 : i ≤ 64) : sAV 65 1 h (.ptr L 0) (some (.int .i64 i)) none = some (.sl L i.toNat 1 (65 - i.toNat) (65 - i.toNat) true) := by
  have h2 : (65 : Nat) ≠ i.toNat := by omega
  have h3 : i ≤ 65 := by omega
  simp [sAV, hg, hz, cutO, bound, h0, h2, h3]
theorem cvB65 (h : H) (L : Nat) (zs : List Int) (i : Nat) (hg : h.get L = some (.cells (zs.map (AV.int .u8)) 341 (some 0))) (hz : zs.length = 65) (h1 : i ≤ 64) : cvBV h (.sl L i 1 (65 - i) (65 - i) true) = some (.str (strB (zs.drop i))) := by
  have e1 : ((zs.map (AV.int .u8)).drop i).take ((65 - i) * 1) = (zs.drop i).map (AV.int .u8) := by
    rw [List.take_of_length_le (by simp [hz])]; simp
  have e2 := bytesOf_ints (zs.drop i)
  have e3 : ((zs.drop i).map (AV.int .u8)).length = (65 - i) * 1 := by simp [hz]
  unfold cvBV
  simp only [srcOf, if_true, hg, sub, e1, e3, e2]
theorem pow16 {a b : Nat} (h : a ≤ b) : (16 : Int) ^ a ≤ 16 ^ b := by exact_mod_cast Nat.pow_le_pow_right (by decide) h
theorem formatBits_ok (u : Int) (h0 : 0 ≤ u) (h1 : u < 18446744073709551616) : Pur 220 [.nils, .int .u64 u, .int .i64 16, .bool false, .bool false] fun v => ∃ s : List Nat, v = .tup [.nils, .str s] ∧ ∀ k : Nat, 1 ≤ k → u < 16 ^ k → s.length ≤ k := by
  refine pq ok220 rfl rfl fun h => ?_
  repeat' (first | (simp (disch := omega) [go_sem, S220, *]) | (omega) | (with_reducible refine Br_dec (fun hp => ?_) (fun hp => ?_)) | (with_reducible refine Br_not ?_) | (with_reducible refine Br_bool (fun hp => ?_) (fun hp => ?_)) | (with_reducible refine bG_dec (fun hp => ?_) (fun hp => ?_)) | (with_reducible refine bG_bool' (fun hp => ?_) (fun hp => ?_)) | (refine bC_v pow2_ok ?_) | (refine bC_v tz_ok ?_) | ((with_reducible refine Go_regD _ _ ?hn ?_); case hn => rfl) | ((with_reducible refine Go_regN _ _ ?hn ?_); case hn => rfl) | (with_reducible refine dE_some ?_ ?_) | (with_reducible refine dN_some ?_ ?_) | (with_reducible refine dN_some' ?_ ?_) | ((with_reducible refine Rd_dG ?hn _ _ _ _ _ ?_); case hn => rfl) | (with_reducible refine dG_dec (fun hp => ?_) (fun hp => ?_)) | (with_reducible refine dG_bool' (fun hp => ?_) (fun hp => ?_)) | (with_reducible refine Rd_nil' ?_))
  refine Go_loop (fun m e h1 => ∃ (j : Nat) (w : Int) (zs : List Int), m = 17 - j ∧ j ≤ 16 ∧ e.get 13 = .int .i64 (65 - j) ∧ e.get 1 = .int .u64 w ∧ 0 ≤ w ∧ w * 16 ^ j ≤ u ∧ (j = 0 ∨ 1 ≤ w) ∧ zs.length = 65 ∧ h1.get h.next = some (.cells (zs.map (AV.int .u8)) 341 (some 0))
    ∧ e.get 14 = .int .u64 4 ∧ e.get 12 = .ptr h.next 0 ∧ e.get 16 = .int .u64 15 ∧ e.get 11 = .str [] ∧ e.get 0 = .nils ∧ e.get 10 = .nils ∧ e.get 4 = .bool false ∧ e.get 3 = .bool false ∧ e.get 15 = .int .u64 16) (n := 17) ?_ ?_
  · refine ⟨0, u, List.replicate 65 0, ?_⟩
    simp (disch := omega) [go_sem, h0]
  · rintro m e h1' ⟨j, w, zs, rfl, hj, q13, q1, hw0, hw1, hw2, hz, hg, q14, q12, q16, q11, q0, q10, q4, q3, q15⟩ Q hQ
    have hpj : (1 : Int) ≤ 16 ^ j := pow16 (Nat.zero_le j)
    by_cases hw : 16 ≤ w
    · have hj2 : j ≤ 14 := by
        apply Classical.byContradiction
        intro hc
        have e1 : (16 : Int) ^ 15 ≤ 16 ^ j := pow16 (by omega)
        have e2 : (16 : Int) * 16 ^ j ≤ w * 16 ^ j := Int.mul_le_mul_of_nonneg_right hw (by omega)
        omega
      have hwu : w ≤ u := by
        have e2 : w * 1 ≤ w * 16 ^ j := Int.mul_le_mul_of_nonneg_left hpj hw0
        omega
      obtain ⟨ha, hb⟩ := and15 w hw0 (by omega)
      obtain ⟨b, hdig⟩ := dig_at _ ha hb
      have hsh := shr4 w hw0
      have hQ' : ∀ e' h', e'.get 13 = .int .i64 (65 - j - 1) → e'.get 1 = .int .u64 (w / 16) → h'.get h.next = some (.cells ((zs.map (AV.int .u8)).set (64 - j) (.int .u8 b)) 341 (some 0)) → e'.get 14 = .int .u64 4 → e'.get 12 = .ptr h.next 0 → e'.get 16 = .int .u64 15 → e'.get 11 = .str [] → e'.get 0 = .nils → e'.get 10 = .nils → e'.get 4 = .bool false → e'.get 3 = .bool false → e'.get 15 = .int .u64 16 → Q e' h' :=
        fun e' h' r1 r2 r3 r4 r5 r6 r7 r8 r9 r10 r11 r12 => hQ (17 - (j + 1)) e' h' (by omega) ⟨j + 1, w / 16, zs.set (64 - j) b, rfl, by omega, by rw [r1]; congr 1; omega, r2, by omega, by
          have e3 : w / 16 * 16 ^ (j + 1) = w / 16 * 16 * 16 ^ j := by rw [Int.pow_succ, Int.mul_comm ((16 : Int) ^ j) 16, Int.mul_assoc]
          have e4 : w / 16 * 16 * 16 ^ j ≤ w * 16 ^ j := Int.mul_le_mul_of_nonneg_right (by omega) (by omega)
          rw [e3]; exact Int.le_trans e4 hw1, by omega, by simpa using hz, by rw [r3, List.map_set], r4, r5, r6, r7, r8, r9, r10, r11, r12⟩
      have hi1 : (65 - (j : Int) - 1).toNat = 64 - j := by omega
      have hlt : 64 - j < 65 := by omega
      unfold digs at hdig
      clear hQ hw2 hw1 hpj
      repeat' (first | (simp (disch := omega) [go_sem, S220, evBin_andI, evBin_shrI, putC_one, *]) | (omega) | (with_reducible refine Br_dec (fun hp => ?_) (fun hp => ?_)) | (with_reducible refine Br_not ?_) | (with_reducible refine Br_bool (fun hp => ?_) (fun hp => ?_)) | (with_reducible refine bG_dec (fun hp => ?_) (fun hp => ?_)) | (with_reducible refine bG_bool' (fun hp => ?_) (fun hp => ?_)) | ((with_reducible refine Go_regD _ _ ?hn ?_); case hn => rfl) | ((with_reducible refine Go_regN _ _ ?hn ?_); case hn => rfl) | (with_reducible refine dE_some ?_ ?_) | (with_reducible refine dN_some ?_ ?_) | (with_reducible refine dN_some' ?_ ?_) | ((with_reducible refine Rd_dG ?hn _ _ _ _ _ ?_); case hn => rfl) | (with_reducible refine dG_dec (fun hp => ?_) (fun hp => ?_)) | (with_reducible refine dG_bool' (fun hp => ?_) (fun hp => ?_)) | (with_reducible refine Rd_nil' ?_))
      refine hQ' _ _ ?_ ?_ ?_ ?_ ?_ ?_ ?_ ?_ ?_ ?_ ?_ ?_ <;> simp (disch := omega) [go_sem, *]
    · have hjk : ∀ k : Nat, 1 ≤ k → u < 16 ^ k → j + 1 ≤ k := by
        intro k k1 k2
        apply Classical.byContradiction
        intro hc
        rcases hw2 with rfl | hw2
        · omega
        · have e1 : (16 : Int) ^ k ≤ 16 ^ j := pow16 (by omega)
          have e2 : 1 * (16 : Int) ^ j ≤ w * 16 ^ j := Int.mul_le_mul_of_nonneg_right hw2 (by omega)
          omega
      have hj3 : j ≤ 15 := by
        have := hjk 16 (by omega) (by omega)
        omega
      obtain ⟨b, hdig⟩ := dig_at w hw0 (by omega)
      unfold digs at hdig
      clear hQ hw2 hw1 hpj
      have hi1 : (65 - (j : Int) - 1).toNat = 64 - j := by omega
      have hlt : 64 - j < 65 := by omega
      have hgs : (h1'.set h.next (.cells ((zs.map (AV.int .u8)).set (64 - j) (.int .u8 b)) 341 (some 0))).get h.next = some (.cells ((zs.set (64 - j) b).map (AV.int .u8)) 341 (some 0)) := by
        rw [H.get_set_eq _ _ _ rfl, List.map_set]
      have hc1 := cut65 _ h.next _ (65 - (j : Int) - 1) hgs (by simpa using hz) (by omega) (by omega)
      have hc2 := cvB65 _ h.next _ (64 - j) hgs (by simpa using hz) (by omega)
      rw [hi1] at hc1
      rw [show 65 - (64 - j) = j + 1 by omega] at hc1 hc2
      have hlen : (strB ((zs.set (64 - j) b).drop (64 - j))).length = j + 1 := by simp [strB, hz]; omega
      clear hgs
      generalize strB ((zs.set (64 - j) b).drop (64 - j)) = str at *
      repeat' (first | (simp (disch := omega) [go_sem, S220, evBin_andI, evBin_shrI, putC_one, *]) | (omega) | (with_reducible refine Br_dec (fun hp => ?_) (fun hp => ?_)) | (with_reducible refine Br_not ?_) | (with_reducible refine Br_bool (fun hp => ?_) (fun hp => ?_)) | (with_reducible refine bG_dec (fun hp => ?_) (fun hp => ?_)) | (with_reducible refine bG_bool' (fun hp => ?_) (fun hp => ?_)) | ((with_reducible refine Go_regD _ _ ?hn ?_); case hn => rfl) | ((with_reducible refine Go_regN _ _ ?hn ?_); case hn => rfl) | (with_reducible refine dE_some ?_ ?_) | (with_reducible refine dN_some ?_ ?_) | (with_reducible refine dN_some' ?_ ?_) | ((with_reducible refine Rd_dG ?hn _ _ _ _ _ ?_); case hn => rfl) | (with_reducible refine dG_dec (fun hp => ?_) (fun hp => ?_)) | (with_reducible refine dG_bool' (fun hp => ?_) (fun hp => ?_)) | (with_reducible refine Rd_nil' ?_))
      exact ⟨_, Le.refl _, str, rfl, fun k k1 k2 => by rw [hlen]; exact hjk k k1 k2⟩
theorem FormatInt_ok (u : Int) (h0 : 0 ≤ u) (h1 : u < 9223372036854775808) : Pur 254 [.int .i64 u, .int .i64 16] fun v => ∃ s : List Nat, v = .str s ∧ ∀ k : Nat, 1 ≤ k → u < 16 ^ k → s.length ≤ k := by
  have hin : Pur 190 [.int .i64 u, .int .i64 16] fun v => ∃ s : List Nat, v = .str s ∧ ∀ k : Nat, 1 ≤ k → u < 16 ^ k → s.length ≤ k := by
    refine pq ok190 rfl rfl fun h => ?_
    have hb := formatBits_ok u h0 (by omega)
    have hng : ¬ u < 0 := by omega
    repeat' (first | (simp (disch := omega) [go_sem, S190, *]) | (omega) | (with_reducible refine Br_dec (fun hp => ?_) (fun hp => ?_)) | (with_reducible refine Br_not ?_) | (with_reducible refine Br_bool (fun hp => ?_) (fun hp => ?_)) | (with_reducible refine bG_dec (fun hp => ?_) (fun hp => ?_)) | (with_reducible refine bG_bool' (fun hp => ?_) (fun hp => ?_)) | (refine bC_pure hb fun v hv => ?_; obtain ⟨s, rfl, hs⟩ := hv) | ((with_reducible refine Go_regD _ _ ?hn ?_); case hn => rfl) | ((with_reducible refine Go_regN _ _ ?hn ?_); case hn => rfl) | (with_reducible refine dE_some ?_ ?_) | (with_reducible refine dN_some ?_ ?_) | (with_reducible refine dN_some' ?_ ?_) | ((with_reducible refine Rd_dG ?hn _ _ _ _ _ ?_); case hn => rfl) | (with_reducible refine dG_dec (fun hp => ?_) (fun hp => ?_)) | (with_reducible refine dG_bool' (fun hp => ?_) (fun hp => ?_)) | (with_reducible refine Rd_nil' ?_))
    exact ⟨_, Le.refl _, s, rfl, hs⟩
  refine pq ok254 rfl rfl fun h => ?_
  repeat' (first | (simp (disch := omega) [go_sem, S254, *]) | (omega) | (with_reducible refine Br_dec (fun hp => ?_) (fun hp => ?_)) | (with_reducible refine Br_not ?_) | (with_reducible refine Br_bool (fun hp => ?_) (fun hp => ?_)) | (with_reducible refine bG_dec (fun hp => ?_) (fun hp => ?_)) | (with_reducible refine bG_bool' (fun hp => ?_) (fun hp => ?_)) | (refine bC_pure hin fun v hv => ?_; obtain ⟨s, rfl, hs⟩ := hv) | ((with_reducible refine Go_regD _ _ ?hn ?_); case hn => rfl) | ((with_reducible refine Go_regN _ _ ?hn ?_); case hn => rfl) | (with_reducible refine dE_some ?_ ?_) | (with_reducible refine dN_some ?_ ?_) | (with_reducible refine dN_some' ?_ ?_) | ((with_reducible refine Rd_dG ?hn _ _ _ _ _ ?_); case hn => rfl) | (with_reducible refine dG_dec (fun hp => ?_) (fun hp => ?_)) | (with_reducible refine dG_bool' (fun hp => ?_) (fun hp => ?_)) | (with_reducible refine Rd_nil' ?_))
  exact ⟨_, Le.refl _, s, rfl, hs⟩
/-! ### escapes -/
theorem hex_ok (h : H) (L : Nat) (bs : List Int) (c u : Int) (many : Nat) (hb : IsB h L 305 bs) (hl : bs.length ≤ 1099511627776) (h0 : 0 ≤ u) (h1 : u < 16 ^ many) (hm : 1 ≤ many) (hm8 : many ≤ 8) :
    Spc 228 [.ptr L 0, .int .u8 c, .int .i64 u, .int .i64 many] h fun v h' => h.next ≤ h'.next ∧ (∃ ns : List Int, ns.length ≤ 18 ∧ IsB h' L 305 (bs ++ ns)) ∧ ∀ j, j < L → h'.get j = h.get j := by
  refine sg ok228 rfl ?_
  have hu : u < 4294967296 := by
    have : (16 : Int) ^ many ≤ 16 ^ 8 := pow16 hm8
    omega
  have hf := FormatInt_ok u h0 (by omega)
  have ht : (305, 190) ∈ U0 := by simp [U0]
  have hL : L < h.next := by obtain ⟨a, v, _, _, h3, _⟩ := hb; exact h3
  have hrep : ∀ s : List Nat, s.length ≤ many → Puv 255 [.str [48], .int .i64 ((many : Int) - s.length)] (.str (ofB (Lib.repeatL (toL [48]) (many - s.length)))) := fun s hs => by
    have := repeat_ok [48] (many - s.length) (by omega) (by simp; omega)
    rwa [show ((many - s.length : Nat) : Int) = many - s.length by omega] at this
  have hrl : ∀ s : List Nat, (ofB (Lib.repeatL (toL [48]) (many - s.length))).length = many - s.length := fun s => by simp [ofB, toL, Lib.repeatL_length]
  repeat' (first | (simp (disch := omega) [go_sem, S228, *]) | (omega) | (with_reducible refine Br_dec (fun hp => ?_) (fun hp => ?_)) | (with_reducible refine Br_not ?_) | (with_reducible refine Br_bool (fun hp => ?_) (fun hp => ?_)) | (with_reducible refine bG_dec (fun hp => ?_) (fun hp => ?_)) | (with_reducible refine bG_bool' (fun hp => ?_) (fun hp => ?_)) | (refine bC_pure hf fun v hv => ?_; obtain ⟨s, rfl, hs⟩ := hv; have hs' := hs many hm h1; have hrp := hrep s hs'; have hrpl := hrl s; generalize ofB (Lib.repeatL (toL [48]) (many - s.length)) = zr at hrp hrpl) | (refine bC_spec (WriteByte_ok h L _ bs _ ht hb (by omega)) fun v h2 hv => ?_; obtain ⟨rfl, a1, a2, a3⟩ := hv) | (refine bC_spec (WriteByte_ok h2 L _ _ _ ht a2 (by simp <;> omega)) fun v h3 hv => ?_; obtain ⟨rfl, b1, b2, b3⟩ := hv) | (refine dC_v hrp ?_) | (refine dC_spec (WriteString_ok h3 L _ _ zr ht b2 (by simp <;> omega)) fun v h4 hv => ?_; obtain ⟨c1, c2, c3⟩ := hv) | (refine bC_spec (WriteString_ok h4 L _ _ s ht c2 (by simp <;> omega)) fun v h5 hv => ?_; obtain ⟨d1, d2, d3⟩ := hv) | ((with_reducible refine Go_regD _ _ ?hn ?_); case hn => rfl) | ((with_reducible refine Go_regN _ _ ?hn ?_); case hn => rfl) | (with_reducible refine dE_some ?_ ?_) | (with_reducible refine dN_some ?_ ?_) | (with_reducible refine dN_some' ?_ ?_) | ((with_reducible refine Rd_dG ?hn _ _ _ _ _ ?_); case hn => rfl) | (with_reducible refine dG_dec (fun hp => ?_) (fun hp => ?_)) | (with_reducible refine dG_bool' (fun hp => ?_) (fun hp => ?_)) | (with_reducible refine Rd_nil' ?_))
  refine ⟨by omega, ⟨[92] ++ [c] ++ zr.map Int.ofNat ++ s.map Int.ofNat, by simp; omega, by simpa using d2⟩, fun j hj => by rw [d3 j hj, c3 j hj, b3 j hj, a3 j hj]⟩
def Put (h h' : H) (L : Nat) (t : TypeId) (bs : List Int) : Prop := h.next ≤ h'.next ∧ (∃ ns : List Int, ns.length ≤ 18 ∧ IsB h' L t (bs ++ ns)) ∧ ∀ j, j < L → h'.get j = h.get j
theorem put_ok (h : H) (L : Nat) (bs : List Int) (u : Int) (hb : IsB h L 305 bs) (hl : bs.length ≤ 1000000000000) (h0 : 0 ≤ u) (h1 : u ≤ 1114111) :
    Spc 198 [.ptr L 0, .int .i64 u] h fun v h' => Put h h' L 305 bs := by
  refine sg ok198 rfl ?_
  have hs := short_ok u
  have hm := may_ok u
  have ht : (305, 190) ∈ U0 := by simp [U0]
  have x2 : u < 256 → u < 16 ^ 2 := fun h => by omega
  have x4 : u < 65536 → u < 16 ^ 4 := fun h => by omega
  have x8 : u < 16 ^ 8 := by omega
  by_cases c1 : shortR u = 0
  · cases c2 : mayR u with
    | true =>
      repeat' (first | (simp (disch := omega) [go_sem, S198, *]) | (omega) | (with_reducible refine Br_dec (fun hp => ?_) (fun hp => ?_)) | (with_reducible refine Br_not ?_) | (with_reducible refine Br_bool (fun hp => ?_) (fun hp => ?_)) | (with_reducible refine bG_dec (fun hp => ?_) (fun hp => ?_)) | (with_reducible refine bG_bool' (fun hp => ?_) (fun hp => ?_)) | (refine bC_v hs ?_) | (refine bC_v hm ?_) | (refine bC_spec (WriteRune_ok h L _ bs u ht hb (by omega)) fun v h2 hv => ?_; obtain ⟨a1, ⟨ns, a2, a3⟩, a4⟩ := hv) | ((with_reducible refine Go_regD _ _ ?hn ?_); case hn => rfl) | ((with_reducible refine Go_regN _ _ ?hn ?_); case hn => rfl) | (with_reducible refine dE_some ?_ ?_) | (with_reducible refine dN_some ?_ ?_) | (with_reducible refine dN_some' ?_ ?_) | ((with_reducible refine Rd_dG ?hn _ _ _ _ _ ?_); case hn => rfl) | (with_reducible refine dG_dec (fun hp => ?_) (fun hp => ?_)) | (with_reducible refine dG_bool' (fun hp => ?_) (fun hp => ?_)) | (with_reducible refine Rd_nil' ?_))
      exact ⟨a1, ⟨ns, by omega, a3⟩, a4⟩
    | false =>
      repeat' (first | (simp (disch := omega) [go_sem, S198, *]) | (omega) | (with_reducible refine Br_dec (fun hp => ?_) (fun hp => ?_)) | (with_reducible refine Br_not ?_) | (with_reducible refine Br_bool (fun hp => ?_) (fun hp => ?_)) | (with_reducible refine bG_dec (fun hp => ?_) (fun hp => ?_)) | (with_reducible refine bG_bool' (fun hp => ?_) (fun hp => ?_)) | (refine bC_v hs ?_) | (refine bC_v hm ?_) | (refine bC_spec (hex_ok h L bs 120 u 2 hb (by omega) h0 (x2 (by assumption)) (by omega) (by omega)) fun v h2 hv => ?_) | (refine bC_spec (hex_ok h L bs 117 u 4 hb (by omega) h0 (x4 (by assumption)) (by omega) (by omega)) fun v h2 hv => ?_) | (refine bC_spec (hex_ok h L bs 85 u 8 hb (by omega) h0 x8 (by omega) (by omega)) fun v h2 hv => ?_) | (exact hv) | ((with_reducible refine Go_regD _ _ ?hn ?_); case hn => rfl) | ((with_reducible refine Go_regN _ _ ?hn ?_); case hn => rfl) | (with_reducible refine dE_some ?_ ?_) | (with_reducible refine dN_some ?_ ?_) | (with_reducible refine dN_some' ?_ ?_) | ((with_reducible refine Rd_dG ?hn _ _ _ _ _ ?_); case hn => rfl) | (with_reducible refine dG_dec (fun hp => ?_) (fun hp => ?_)) | (with_reducible refine dG_bool' (fun hp => ?_) (fun hp => ?_)) | (with_reducible refine Rd_nil' ?_))
  · repeat' (first | (simp (disch := omega) [go_sem, S198, *]) | (omega) | (with_reducible refine Br_dec (fun hp => ?_) (fun hp => ?_)) | (with_reducible refine Br_not ?_) | (with_reducible refine Br_bool (fun hp => ?_) (fun hp => ?_)) | (with_reducible refine bG_dec (fun hp => ?_) (fun hp => ?_)) | (with_reducible refine bG_bool' (fun hp => ?_) (fun hp => ?_)) | (refine bC_v hs ?_) | (refine bC_v hm ?_) | (refine bC_spec (WriteByte_ok h L _ bs _ ht hb (by omega)) fun v h2 hv => ?_; obtain ⟨rfl, a1, a2, a3⟩ := hv) | (refine bC_spec (WriteByte_ok h2 L _ _ _ ht a2 (by simp <;> omega)) fun v h3 hv => ?_; obtain ⟨rfl, b1, b2, b3⟩ := hv) | ((with_reducible refine Go_regD _ _ ?hn ?_); case hn => rfl) | ((with_reducible refine Go_regN _ _ ?hn ?_); case hn => rfl) | (with_reducible refine dE_some ?_ ?_) | (with_reducible refine dN_some ?_ ?_) | (with_reducible refine dN_some' ?_ ?_) | ((with_reducible refine Rd_dG ?hn _ _ _ _ _ ?_); case hn => rfl) | (with_reducible refine dG_dec (fun hp => ?_) (fun hp => ?_)) | (with_reducible refine dG_bool' (fun hp => ?_) (fun hp => ?_)) | (with_reducible refine Rd_nil' ?_))
    exact ⟨by omega, ⟨[92] ++ [shortR u], by simp, by simpa using b2⟩, fun j hj => by rw [b3 j hj, a3 j hj]⟩
def dblE (s : List Nat) : Int := if decOk s then 0 else 8
theorem Double_ok (s : List Nat) (hl : s.length < 1073741824) : Pur 158 [.str s] fun v => ∃ t : List Nat, v = .tup [.str t, .int .i64 (dblE s)] ∧ t.length ≤ 18 * s.length + 2 := by
  refine pq ok158 rfl rfl fun h => ?_
  have hd := Decode_ok s (by omega)
  unfold decodeV decFault at hd
  unfold dblE
  cases hok : decOk s with
  | false =>
    rw [hok] at hd
    repeat' (first | (simp (disch := omega) [go_sem, S158, *]) | (omega) | (with_reducible refine Br_dec (fun hp => ?_) (fun hp => ?_)) | (with_reducible refine Br_not ?_) | (with_reducible refine Br_bool (fun hp => ?_) (fun hp => ?_)) | (with_reducible refine bG_dec (fun hp => ?_) (fun hp => ?_)) | (with_reducible refine bG_bool' (fun hp => ?_) (fun hp => ?_)) | (refine bC_pure hd fun v hv => ?_; subst hv) | ((with_reducible refine Go_regD _ _ ?hn ?_); case hn => rfl) | ((with_reducible refine Go_regN _ _ ?hn ?_); case hn => rfl) | (with_reducible refine dE_some ?_ ?_) | (with_reducible refine dN_some ?_ ?_) | (with_reducible refine dN_some' ?_ ?_) | ((with_reducible refine Rd_dG ?hn _ _ _ _ _ ?_); case hn => rfl) | (with_reducible refine dG_dec (fun hp => ?_) (fun hp => ?_)) | (with_reducible refine dG_bool' (fun hp => ?_) (fun hp => ?_)) | (with_reducible refine Rd_nil' ?_))
    exact ⟨_, Le.refl _, [], rfl, by simp⟩
  | true =>
    rw [hok] at hd
    have hr := signs_range hok
    have hsl := signs_len s
    generalize decSigns s = l at *
    repeat' (first | (simp (disch := omega) [go_sem, S158, *]) | (omega) | (with_reducible refine Br_dec (fun hp => ?_) (fun hp => ?_)) | (with_reducible refine Br_not ?_) | (with_reducible refine Br_bool (fun hp => ?_) (fun hp => ?_)) | (with_reducible refine bG_dec (fun hp => ?_) (fun hp => ?_)) | (with_reducible refine bG_bool' (fun hp => ?_) (fun hp => ?_)) | (refine bC_pure hd fun v hv => ?_; subst hv) | ((with_reducible refine Go_regD _ _ ?hn ?_); case hn => rfl) | ((with_reducible refine Go_regN _ _ ?hn ?_); case hn => rfl) | (with_reducible refine dE_some ?_ ?_) | (with_reducible refine dN_some ?_ ?_) | (with_reducible refine dN_some' ?_ ?_) | ((with_reducible refine Rd_dG ?hn _ _ _ _ _ ?_); case hn => rfl) | (with_reducible refine dG_dec (fun hp => ?_) (fun hp => ?_)) | (with_reducible refine dG_bool' (fun hp => ?_) (fun hp => ?_)) | (with_reducible refine Rd_nil' ?_))
    refine Go_loop (fun m e h1 => ∃ (j : Nat) (bs : List Int), m = l.length - j ∧ j ≤ l.length ∧ bs.length ≤ 18 * j ∧ e.get 21 = .int .i64 j ∧ e.get 20 = .int .i64 l.length ∧ e.get 19 = .fsl false 1 (l.map (AV.int .i64)) ∧ e.get 6 = .ptr (h.next + 1) 0 ∧ e.get 7 = .fn 198 [.ptr (h.next + 1) 0] [] ∧ IsB h1 (h.next + 1) 305 bs) (n := l.length) ?_ ?_
    · refine ⟨0, [], ?_⟩
      simp (disch := omega) [go_sem]
      exact ⟨.nilp, .nils, by simp (disch := omega) [go_sem], .inl rfl, by simp [go_sem], Els.nil _ _ _ _⟩
    · rintro m e h1 ⟨j, bs, rfl, hj, hbl, q21, q20, q19, q6, q7, hb⟩ Q hQ
      by_cases hlt : j < l.length
      · have hrj := hr l[j] (List.getElem_mem hlt)
        have hp := put_ok h1 (h.next + 1) bs l[j] hb (by omega) hrj.1 hrj.2
        have hQ' : ∀ e' h', e'.get 21 = .int .i64 ((j : Int) + 1) → e'.get 20 = .int .i64 l.length → e'.get 19 = .fsl false 1 (l.map (AV.int .i64)) → e'.get 6 = .ptr (h.next + 1) 0 → e'.get 7 = .fn 198 [.ptr (h.next + 1) 0] [] → Put h1 h' (h.next + 1) 305 bs → Q e' h' :=
          fun e' h' r1 r2 r3 r4 r5 ⟨_, ⟨ns, r7, r8⟩, _⟩ => hQ (l.length - (j + 1)) e' h' (by omega) ⟨j + 1, bs ++ ns, rfl, by omega, by simp; omega, r1, r2, r3, r4, r5, r8⟩
        clear hQ
        repeat' (first | (simp (disch := omega) [go_sem, S158, *]) | (omega) | (with_reducible refine Br_dec (fun hp => ?_) (fun hp => ?_)) | (with_reducible refine Br_not ?_) | (with_reducible refine Br_bool (fun hp => ?_) (fun hp => ?_)) | (with_reducible refine bG_dec (fun hp => ?_) (fun hp => ?_)) | (with_reducible refine bG_bool' (fun hp => ?_) (fun hp => ?_)) | (refine bC_spec hp fun v h2 hv => ?_) | ((with_reducible refine Go_regD _ _ ?hn ?_); case hn => rfl) | ((with_reducible refine Go_regN _ _ ?hn ?_); case hn => rfl) | (with_reducible refine dE_some ?_ ?_) | (with_reducible refine dN_some ?_ ?_) | (with_reducible refine dN_some' ?_ ?_) | ((with_reducible refine Rd_dG ?hn _ _ _ _ _ ?_); case hn => rfl) | (with_reducible refine dG_dec (fun hp => ?_) (fun hp => ?_)) | (with_reducible refine dG_bool' (fun hp => ?_) (fun hp => ?_)) | (with_reducible refine Rd_nil' ?_))
        refine hQ' _ _ ?_ ?_ ?_ ?_ ?_ hv <;> simp (disch := omega) [go_sem, *]
      · have hst := String_ok h1 (h.next + 1) _ bs hb (by omega)
        have hsb : (strB bs).length = bs.length := by simp [strB]
        generalize strB bs = str at *
        have hx1 : [34].length + str.length ≤ 9223372036854775807 := by simp; omega
        have hx2 : (34 :: str).length + [34].length ≤ 9223372036854775807 := by simp; omega
        clear hQ
        repeat' (first | (simp (disch := omega) [go_sem, S158, *]) | (omega) | (with_reducible refine Br_dec (fun hp => ?_) (fun hp => ?_)) | (with_reducible refine Br_not ?_) | (with_reducible refine Br_bool (fun hp => ?_) (fun hp => ?_)) | (with_reducible refine bG_dec (fun hp => ?_) (fun hp => ?_)) | (with_reducible refine bG_bool' (fun hp => ?_) (fun hp => ?_)) | (refine bC_spec hst fun v h2 hv => ?_; obtain ⟨rfl, a1, a2⟩ := hv) | ((with_reducible refine Go_regD _ _ ?hn ?_); case hn => rfl) | ((with_reducible refine Go_regN _ _ ?hn ?_); case hn => rfl) | (with_reducible refine dE_some ?_ ?_) | (with_reducible refine dN_some ?_ ?_) | (with_reducible refine dN_some' ?_ ?_) | ((with_reducible refine Rd_dG ?hn _ _ _ _ _ ?_); case hn => rfl) | (with_reducible refine dG_dec (fun hp => ?_) (fun hp => ?_)) | (with_reducible refine dG_bool' (fun hp => ?_) (fun hp => ?_)) | (with_reducible refine Rd_nil' ?_))
        exact ⟨_, Le.refl _, _, rfl, by simp; omega⟩
end Go.Eng.Tryz
