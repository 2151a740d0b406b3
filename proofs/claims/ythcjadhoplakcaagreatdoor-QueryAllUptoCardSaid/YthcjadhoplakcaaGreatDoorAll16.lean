/- The law QueryAll of package grommetlaw24 answers true and turns no argument, for all arguments that are together of bulk at most 1048576; condition: the listed package variables start as the program's text lays them. (part 16.) -/
import Derived.Test.YthcjadhoplakcaaGreatDoorAll15
import Derived.Lib.ItoaLen
set_option linter.unusedSimpArgs false
set_option linter.unusedVariables false
set_option maxRecDepth 20000
set_option maxHeartbeats 1000000
namespace Go.Eng.Tryz
open Go.Eng Go.Proofs Go.RowKit
structure Step where
  key : List Nat
  index : Int
  isAt : Bool
deriving DecidableEq
def Step.cells (x : Step) : List AV := [.str x.key, .int .i64 x.index, .bool x.isAt]
def Step.av (x : Step) : AV := .agg x.cells
def steps (l : List Step) : AV := .fsl false 3 (l.map Step.av)
theorem cl_steps {p : Nat → Bool} (l : List Step) : AV.cl p (steps l) = true := by
  unfold steps
  simp only [AV.cl]
  exact clL_map _ _ fun x => by simp [Step.av, Step.cells, AV.cl, AV.clL]
/-! ### keys -/
def lettersL : List Nat := [97,98,99,100,101,102,103,104,105,106,107,108,109,110,111,112,113,114,115,116,117,118,119,120,121,122,65,66,67,68,69,70,71,72,73,74,75,76,77,78,79,80,81,82,83,84,85,86,87,88,89,90,48,49,50,51,52,53,54,55,56,57,45,95]
def trimmed (s : List Nat) : List Nat := ofB (Lib.trimS (toL s) (toL lettersL))
theorem trimL_ok (s : List Nat) (hl : s.length < 1073741824) : Puv 157 [.str s, .str lettersL] (.str (trimmed s)) := trim_ok s lettersL (by omega) (by decide) (by decide)
def keyE (k : List Nat) : Int := if k ≠ [] ∧ trimmed k = [] then 0 else dblE k
theorem dblE_cases (k : List Nat) : dblE k = 0 ∨ dblE k = 8 := by unfold dblE; split <;> simp
theorem keyE_cases (k : List Nat) : keyE k = 0 ∨ keyE k = 8 := by
  unfold keyE; split
  · simp
  · exact dblE_cases k
theorem text_ok (k : List Nat) (hl : k.length < 1073741824) : Pur 117 [.str k] fun v => ∃ t : List Nat, v = .tup [.str t, .int .i64 (keyE k)] ∧ t.length ≤ 18 * k.length + 2 := by
  refine pq ok117 rfl rfl fun h => ?_
  have hd := Double_ok k hl
  have ht := trimL_ok k hl
  unfold lettersL at ht
  by_cases c1 : k = []
  · subst c1
    have e : keyE [] = dblE [] := by simp [keyE]
    repeat' (first | (simp (disch := omega) [go_sem, S117, *]) | (omega) | (with_reducible refine Br_dec (fun hp => ?_) (fun hp => ?_)) | (with_reducible refine Br_not ?_) | (with_reducible refine Br_bool (fun hp => ?_) (fun hp => ?_)) | (with_reducible refine bG_dec (fun hp => ?_) (fun hp => ?_)) | (with_reducible refine bG_bool' (fun hp => ?_) (fun hp => ?_)) | (refine bC_v ht ?_) | (refine bC_pure hd fun v hv => ?_; obtain ⟨t, rfl, hv⟩ := hv) | ((with_reducible refine Go_regD _ _ ?hn ?_); case hn => rfl) | ((with_reducible refine Go_regN _ _ ?hn ?_); case hn => rfl) | (with_reducible refine dE_some ?_ ?_) | (with_reducible refine dN_some ?_ ?_) | (with_reducible refine dN_some' ?_ ?_) | ((with_reducible refine Rd_dG ?hn _ _ _ _ _ ?_); case hn => rfl) | (with_reducible refine dG_dec (fun hp => ?_) (fun hp => ?_)) | (with_reducible refine dG_bool' (fun hp => ?_) (fun hp => ?_)) | (with_reducible refine Rd_nil' ?_))
    exact ⟨_, Le.refl _, _, rfl, by simpa using hv⟩
  by_cases c2 : trimmed k = []
  · have e : keyE k = 0 := by simp [keyE, c1, c2]
    repeat' (first | (simp (disch := omega) [go_sem, S117, *]) | (omega) | (with_reducible refine Br_dec (fun hp => ?_) (fun hp => ?_)) | (with_reducible refine Br_not ?_) | (with_reducible refine Br_bool (fun hp => ?_) (fun hp => ?_)) | (with_reducible refine bG_dec (fun hp => ?_) (fun hp => ?_)) | (with_reducible refine bG_bool' (fun hp => ?_) (fun hp => ?_)) | (refine bC_v ht ?_) | (refine bC_pure hd fun v hv => ?_; obtain ⟨t, rfl, hv⟩ := hv) | ((with_reducible refine Go_regD _ _ ?hn ?_); case hn => rfl) | ((with_reducible refine Go_regN _ _ ?hn ?_); case hn => rfl) | (with_reducible refine dE_some ?_ ?_) | (with_reducible refine dN_some ?_ ?_) | (with_reducible refine dN_some' ?_ ?_) | ((with_reducible refine Rd_dG ?hn _ _ _ _ _ ?_); case hn => rfl) | (with_reducible refine dG_dec (fun hp => ?_) (fun hp => ?_)) | (with_reducible refine dG_bool' (fun hp => ?_) (fun hp => ?_)) | (with_reducible refine Rd_nil' ?_))
    exact ⟨_, Le.refl _, _, rfl, by omega⟩
  · have e : keyE k = dblE k := by simp [keyE, c1, c2]
    repeat' (first | (simp (disch := omega) [go_sem, S117, *]) | (omega) | (with_reducible refine Br_dec (fun hp => ?_) (fun hp => ?_)) | (with_reducible refine Br_not ?_) | (with_reducible refine Br_bool (fun hp => ?_) (fun hp => ?_)) | (with_reducible refine bG_dec (fun hp => ?_) (fun hp => ?_)) | (with_reducible refine bG_bool' (fun hp => ?_) (fun hp => ?_)) | (refine bC_v ht ?_) | (refine bC_pure hd fun v hv => ?_; obtain ⟨t, rfl, hv⟩ := hv) | ((with_reducible refine Go_regD _ _ ?hn ?_); case hn => rfl) | ((with_reducible refine Go_regN _ _ ?hn ?_); case hn => rfl) | (with_reducible refine dE_some ?_ ?_) | (with_reducible refine dN_some ?_ ?_) | (with_reducible refine dN_some' ?_ ?_) | ((with_reducible refine Rd_dG ?hn _ _ _ _ _ ?_); case hn => rfl) | (with_reducible refine dG_dec (fun hp => ?_) (fun hp => ?_)) | (with_reducible refine dG_bool' (fun hp => ?_) (fun hp => ?_)) | (with_reducible refine Rd_nil' ?_))
    exact ⟨_, Le.refl _, _, rfl, hv⟩
/-! ### steps -/
def cleanR (x : Step) : Step := if x.isAt then ⟨[], x.index, true⟩ else ⟨x.key, 0, false⟩
theorem clean_ok (x : Step) : Puv 57 [x.av] (cleanR x).av := by
  refine pv ok57 (by simp [AV.clL, AV.cl, Step.av, Step.cells]) rfl fun h => ?_
  cases hx : x.isAt <;> repeat' (first | (simp (disch := omega) [go_sem, S57, Step.av, Step.cells, cleanR, *]) | (omega) | (with_reducible refine Br_dec (fun hp => ?_) (fun hp => ?_)) | (with_reducible refine Br_not ?_) | (with_reducible refine Br_bool (fun hp => ?_) (fun hp => ?_)) | (with_reducible refine bG_dec (fun hp => ?_) (fun hp => ?_)) | (with_reducible refine bG_bool' (fun hp => ?_) (fun hp => ?_)) | ((with_reducible refine Go_regD _ _ ?hn ?_); case hn => rfl) | ((with_reducible refine Go_regN _ _ ?hn ?_); case hn => rfl) | (with_reducible refine dE_some ?_ ?_) | (with_reducible refine dN_some ?_ ?_) | (with_reducible refine dN_some' ?_ ?_) | ((with_reducible refine Rd_dG ?hn _ _ _ _ _ ?_); case hn => rfl) | (with_reducible refine dG_dec (fun hp => ?_) (fun hp => ?_)) | (with_reducible refine dG_bool' (fun hp => ?_) (fun hp => ?_)) | (with_reducible refine Rd_nil' ?_))
def longS (x : Step) : Bool := if x.isAt then decide (x.index < 0) || decide (999999 < x.index) else decide (256 < x.key.length)
def badS (x : Step) : Bool := !x.isAt && decide (keyE x.key ≠ 0)
def pathE (l : List Step) : Int := if 64 < l.length then 5 else if l.any longS then 5 else if l.any badS then 8 else 0
theorem itoa_short (n : Int) (h0 : 0 ≤ n) (h1 : n ≤ 999999) : (itoa n).length ≤ 21 := by
  have := Lib.itoa_length_le n (by omega) (by omega)
  simpa [itoa, ofB] using this
theorem IsB.same {h h' : H} {L : Nat} {t : TypeId} {bs : List Int} (hb : IsB h L t bs) (hn : h.next ≤ h'.next) (hg : ∀ j, j < h.next → h'.get j = h.get j) : IsB h' L t bs := by
  obtain ⟨a, v, h1, h2, h3, h4⟩ := hb
  exact ⟨a, v, by rw [hg _ h3]; exact h1, h2, by omega, h4.same hn fun j _ hj => hg j hj⟩
theorem IsB.nil {h : H} {L : Nat} {t : TypeId} (hg : h.get L = some (.cells [.nilp, .nils] t (some 0))) (hL : L < h.next) : IsB h L t [] := ⟨.nilp, .nils, hg, .inl rfl, hL, Els.nil _ _ _ _⟩
def fmtV (l : List Step) : AV → Prop := fun v => ∃ t : List Nat, v = .tup [.str t, .int .i64 (pathE l)]
theorem fmt_fin {h : H} {a b : AV} {l : List Step} {t : List Nat} {n : Int} (he : n = pathE l) (ha : a = .tup [.str t, .int .i64 n]) : ∃ v, Le a v ∧ fmtV l v := ⟨_, Le.refl _, t, by rw [ha, he]⟩
theorem FormatP_ok (l : List Step) : Pur 58 [steps l] (fmtV l) := by
  refine pq ok58 (by simp [AV.clL, cl_steps]) rfl fun h => ?_
  unfold fmtV
  by_cases c1 : 64 < l.length
  · have e : pathE l = 5 := by simp [pathE, c1]
    repeat' (first | (simp (disch := omega) [go_sem, S58, steps, *]) | (omega) | (with_reducible refine Br_dec (fun hp => ?_) (fun hp => ?_)) | (with_reducible refine Br_not ?_) | (with_reducible refine Br_bool (fun hp => ?_) (fun hp => ?_)) | (with_reducible refine bG_dec (fun hp => ?_) (fun hp => ?_)) | (with_reducible refine bG_bool' (fun hp => ?_) (fun hp => ?_)) | ((with_reducible refine Go_regD _ _ ?hn ?_); case hn => rfl) | ((with_reducible refine Go_regN _ _ ?hn ?_); case hn => rfl) | (with_reducible refine dE_some ?_ ?_) | (with_reducible refine dN_some ?_ ?_) | (with_reducible refine dN_some' ?_ ?_) | ((with_reducible refine Rd_dG ?hn _ _ _ _ _ ?_); case hn => rfl) | (with_reducible refine dG_dec (fun hp => ?_) (fun hp => ?_)) | (with_reducible refine dG_bool' (fun hp => ?_) (fun hp => ?_)) | (with_reducible refine Rd_nil' ?_))
    exact ⟨_, Le.refl _, _, rfl⟩
  repeat' (first | (simp (disch := omega) [go_sem, S58, steps, *]) | (omega) | (with_reducible refine Br_dec (fun hp => ?_) (fun hp => ?_)) | (with_reducible refine Br_not ?_) | (with_reducible refine Br_bool (fun hp => ?_) (fun hp => ?_)) | (with_reducible refine bG_dec (fun hp => ?_) (fun hp => ?_)) | (with_reducible refine bG_bool' (fun hp => ?_) (fun hp => ?_)) | ((with_reducible refine Go_regD _ _ ?hn ?_); case hn => rfl) | ((with_reducible refine Go_regN _ _ ?hn ?_); case hn => rfl) | (with_reducible refine dE_some ?_ ?_) | (with_reducible refine dN_some ?_ ?_) | (with_reducible refine dN_some' ?_ ?_) | ((with_reducible refine Rd_dG ?hn _ _ _ _ _ ?_); case hn => rfl) | (with_reducible refine dG_dec (fun hp => ?_) (fun hp => ?_)) | (with_reducible refine dG_bool' (fun hp => ?_) (fun hp => ?_)) | (with_reducible refine Rd_nil' ?_))
  refine Go_loop (fun m e h1 => ∃ j : Nat, m = l.length - j ∧ j ≤ l.length ∧ (∀ x ∈ l.take j, longS x = false) ∧ e.get 16 = .int .i64 j ∧ e.get 15 = .int .i64 l.length ∧ e.get 14 = steps l ∧ e.get 0 = steps l) (n := l.length) ?_ ?_
  · refine ⟨0, ?_⟩
    simp (disch := omega) [go_sem, steps]
  · rintro m e h1 ⟨j, rfl, hj, hno, q16, q15, q14, q0⟩ Q hQ
    unfold steps at q14 q0
    by_cases hlt : j < l.length
    · have hx : l[j]? = some l[j] := List.getElem?_eq_getElem hlt
      have hmem : l[j] ∈ l := List.getElem_mem hlt
      have hQ' : longS l[j] = false → ∀ e' h', e'.get 16 = .int .i64 ((j : Int) + 1) → e'.get 15 = .int .i64 l.length → e'.get 14 = steps l → e'.get 0 = steps l → Q e' h' :=
        fun hs e' h' r1 r2 r3 r4 => hQ (l.length - (j + 1)) e' h' (by omega) ⟨j + 1, rfl, by omega, by
          rw [take_snoc l j hlt]
          intro x hx
          rcases List.mem_append.1 hx with h1 | h1
          · exact hno x h1
          · rw [List.mem_singleton.1 h1]; exact hs, r1, r2, r3, r4⟩
      have hbad : longS l[j] = true → pathE l = 5 := fun hs => by
        have : l.any longS = true := List.any_eq_true.2 ⟨_, hmem, hs⟩
        simp [pathE, c1, this]
      clear hQ hno
      unfold steps at hQ'
      cases hat : l[j].isAt
      · by_cases c2 : 256 < l[j].key.length
        · have e := hbad (by simp [longS, hat, c2])
          repeat' (first | (simp (disch := omega) [go_sem, S58, steps, Step.av, Step.cells, *]) | (omega) | (with_reducible refine Br_dec (fun hp => ?_) (fun hp => ?_)) | (with_reducible refine Br_not ?_) | (with_reducible refine Br_bool (fun hp => ?_) (fun hp => ?_)) | (with_reducible refine bG_dec (fun hp => ?_) (fun hp => ?_)) | (with_reducible refine bG_bool' (fun hp => ?_) (fun hp => ?_)) | ((with_reducible refine Go_regD _ _ ?hn ?_); case hn => rfl) | ((with_reducible refine Go_regN _ _ ?hn ?_); case hn => rfl) | (with_reducible refine dE_some ?_ ?_) | (with_reducible refine dN_some ?_ ?_) | (with_reducible refine dN_some' ?_ ?_) | ((with_reducible refine Rd_dG ?hn _ _ _ _ _ ?_); case hn => rfl) | (with_reducible refine dG_dec (fun hp => ?_) (fun hp => ?_)) | (with_reducible refine dG_bool' (fun hp => ?_) (fun hp => ?_)) | (with_reducible refine Rd_nil' ?_))
          exact ⟨_, Le.refl _, _, rfl⟩
        · have hQ2 := hQ' (by simp [longS, hat]; omega)
          clear hQ' hbad
          repeat' (first | (simp (disch := omega) [go_sem, S58, steps, Step.av, Step.cells, *]) | (omega) | (with_reducible refine Br_dec (fun hp => ?_) (fun hp => ?_)) | (with_reducible refine Br_not ?_) | (with_reducible refine Br_bool (fun hp => ?_) (fun hp => ?_)) | (with_reducible refine bG_dec (fun hp => ?_) (fun hp => ?_)) | (with_reducible refine bG_bool' (fun hp => ?_) (fun hp => ?_)) | ((with_reducible refine Go_regD _ _ ?hn ?_); case hn => rfl) | ((with_reducible refine Go_regN _ _ ?hn ?_); case hn => rfl) | (with_reducible refine dE_some ?_ ?_) | (with_reducible refine dN_some ?_ ?_) | (with_reducible refine dN_some' ?_ ?_) | ((with_reducible refine Rd_dG ?hn _ _ _ _ _ ?_); case hn => rfl) | (with_reducible refine dG_dec (fun hp => ?_) (fun hp => ?_)) | (with_reducible refine dG_bool' (fun hp => ?_) (fun hp => ?_)) | (with_reducible refine Rd_nil' ?_))
          refine hQ2 _ _ ?_ ?_ ?_ ?_ <;> simp (disch := omega) [go_sem, *]
      · by_cases c2 : l[j].index < 0
        · have e := hbad (by simp [longS, hat, c2])
          repeat' (first | (simp (disch := omega) [go_sem, S58, steps, Step.av, Step.cells, *]) | (omega) | (with_reducible refine Br_dec (fun hp => ?_) (fun hp => ?_)) | (with_reducible refine Br_not ?_) | (with_reducible refine Br_bool (fun hp => ?_) (fun hp => ?_)) | (with_reducible refine bG_dec (fun hp => ?_) (fun hp => ?_)) | (with_reducible refine bG_bool' (fun hp => ?_) (fun hp => ?_)) | ((with_reducible refine Go_regD _ _ ?hn ?_); case hn => rfl) | ((with_reducible refine Go_regN _ _ ?hn ?_); case hn => rfl) | (with_reducible refine dE_some ?_ ?_) | (with_reducible refine dN_some ?_ ?_) | (with_reducible refine dN_some' ?_ ?_) | ((with_reducible refine Rd_dG ?hn _ _ _ _ _ ?_); case hn => rfl) | (with_reducible refine dG_dec (fun hp => ?_) (fun hp => ?_)) | (with_reducible refine dG_bool' (fun hp => ?_) (fun hp => ?_)) | (with_reducible refine Rd_nil' ?_))
          exact ⟨_, Le.refl _, _, rfl⟩
        by_cases c3 : 999999 < l[j].index
        · have e := hbad (by simp [longS, hat, c3])
          repeat' (first | (simp (disch := omega) [go_sem, S58, steps, Step.av, Step.cells, *]) | (omega) | (with_reducible refine Br_dec (fun hp => ?_) (fun hp => ?_)) | (with_reducible refine Br_not ?_) | (with_reducible refine Br_bool (fun hp => ?_) (fun hp => ?_)) | (with_reducible refine bG_dec (fun hp => ?_) (fun hp => ?_)) | (with_reducible refine bG_bool' (fun hp => ?_) (fun hp => ?_)) | ((with_reducible refine Go_regD _ _ ?hn ?_); case hn => rfl) | ((with_reducible refine Go_regN _ _ ?hn ?_); case hn => rfl) | (with_reducible refine dE_some ?_ ?_) | (with_reducible refine dN_some ?_ ?_) | (with_reducible refine dN_some' ?_ ?_) | ((with_reducible refine Rd_dG ?hn _ _ _ _ _ ?_); case hn => rfl) | (with_reducible refine dG_dec (fun hp => ?_) (fun hp => ?_)) | (with_reducible refine dG_bool' (fun hp => ?_) (fun hp => ?_)) | (with_reducible refine Rd_nil' ?_))
          exact ⟨_, Le.refl _, _, rfl⟩
        · have hQ2 := hQ' (by simp [longS, hat]; omega)
          clear hQ' hbad
          repeat' (first | (simp (disch := omega) [go_sem, S58, steps, Step.av, Step.cells, *]) | (omega) | (with_reducible refine Br_dec (fun hp => ?_) (fun hp => ?_)) | (with_reducible refine Br_not ?_) | (with_reducible refine Br_bool (fun hp => ?_) (fun hp => ?_)) | (with_reducible refine bG_dec (fun hp => ?_) (fun hp => ?_)) | (with_reducible refine bG_bool' (fun hp => ?_) (fun hp => ?_)) | ((with_reducible refine Go_regD _ _ ?hn ?_); case hn => rfl) | ((with_reducible refine Go_regN _ _ ?hn ?_); case hn => rfl) | (with_reducible refine dE_some ?_ ?_) | (with_reducible refine dN_some ?_ ?_) | (with_reducible refine dN_some' ?_ ?_) | ((with_reducible refine Rd_dG ?hn _ _ _ _ _ ?_); case hn => rfl) | (with_reducible refine dG_dec (fun hp => ?_) (fun hp => ?_)) | (with_reducible refine dG_bool' (fun hp => ?_) (fun hp => ?_)) | (with_reducible refine Rd_nil' ?_))
          refine hQ2 _ _ ?_ ?_ ?_ ?_ <;> simp (disch := omega) [go_sem, *]
    · have hnl : l.any longS = false := by
        rw [List.take_of_length_le (by omega)] at hno
        apply Bool.eq_false_iff.2
        intro hc
        obtain ⟨x, h1, h2⟩ := List.any_eq_true.1 hc
        rw [hno x h1] at h2; cases h2
      clear hQ
      have hl64 : l.length ≤ 64 := by omega
      rw [List.take_of_length_le (by omega)] at hno
      have ht : (190, 190) ∈ U0 := by simp [U0]
      repeat' (first | (simp (disch := omega) [go_sem, S58, steps, Step.av, Step.cells, *]) | (omega) | (with_reducible refine Br_dec (fun hp => ?_) (fun hp => ?_)) | (with_reducible refine Br_not ?_) | (with_reducible refine Br_bool (fun hp => ?_) (fun hp => ?_)) | (with_reducible refine bG_dec (fun hp => ?_) (fun hp => ?_)) | (with_reducible refine bG_bool' (fun hp => ?_) (fun hp => ?_)) | ((with_reducible refine Go_regD _ _ ?hn ?_); case hn => rfl) | ((with_reducible refine Go_regN _ _ ?hn ?_); case hn => rfl) | (with_reducible refine dE_some ?_ ?_) | (with_reducible refine dN_some ?_ ?_) | (with_reducible refine dN_some' ?_ ?_) | ((with_reducible refine Rd_dG ?hn _ _ _ _ _ ?_); case hn => rfl) | (with_reducible refine dG_dec (fun hp => ?_) (fun hp => ?_)) | (with_reducible refine dG_bool' (fun hp => ?_) (fun hp => ?_)) | (with_reducible refine Rd_nil' ?_))
      refine Go_loop (fun m e h2 => ∃ (j : Nat) (bs : List Int), m = l.length - j ∧ j ≤ l.length ∧ bs.length ≤ 5000 * j ∧ (∀ x ∈ l.take j, badS x = false) ∧ e.get 46 = .int .i64 j ∧ e.get 45 = .int .i64 l.length ∧ e.get 44 = steps l ∧ e.get 6 = .ptr h1.next 0 ∧ IsB h2 h1.next 190 bs) (n := l.length) ?_ ?_
      · refine ⟨0, [], ?_⟩
        simp (disch := omega) [go_sem, steps]
        exact IsB.nil (by simp (disch := omega) [go_sem]) (by simp [go_sem])
      · rintro m e h2 ⟨j, bs, rfl, hj, hbl, hnb, q46, q45, q44, q6, hb⟩ Q hQ
        unfold steps at q44
        by_cases hlt : j < l.length
        · have hx : l[j]? = some l[j] := List.getElem?_eq_getElem hlt
          have hmem : l[j] ∈ l := List.getElem_mem hlt
          have hlg := hno _ hmem
          have hQ' : badS l[j] = false → ∀ e' h' ns, e'.get 46 = .int .i64 ((j : Int) + 1) → e'.get 45 = .int .i64 l.length → e'.get 44 = steps l → e'.get 6 = .ptr h1.next 0 → ns.length ≤ 5000 → IsB h' h1.next 190 (bs ++ ns) → Q e' h' :=
            fun hs e' h' ns r1 r2 r3 r4 r5 r6 => hQ (l.length - (j + 1)) e' h' (by omega) ⟨j + 1, bs ++ ns, rfl, by omega, by simp; omega, by
              rw [take_snoc l j hlt]
              intro x hx
              rcases List.mem_append.1 hx with h1 | h1
              · exact hnb x h1
              · rw [List.mem_singleton.1 h1]; exact hs, r1, r2, r3, r4, r6⟩
          have hbad : badS l[j] = true → pathE l = 8 := fun hs => by
            have : l.any badS = true := List.any_eq_true.2 ⟨_, hmem, hs⟩
            have h2 : l.any longS = false := hnl
            unfold pathE
            rw [if_neg c1, h2, this]; rfl
          clear hQ hno hnb
          unfold steps at hQ'
          cases hat : l[j].isAt
          · have hk : l[j].key.length ≤ 256 := by simpa [longS, hat] using hlg
            have htx := text_ok l[j].key (by omega)
            rcases keyE_cases l[j].key with c2 | c2
            · have hQ2 := hQ' (by simp [badS, hat, c2])
              rw [c2] at htx
              clear hQ' hbad
              by_cases hj0 : ¬ (0 : Int) < j
              · repeat' (first | (simp (disch := omega) [go_sem, S58, steps, Step.av, Step.cells, *]) | (omega) | (with_reducible refine Br_dec (fun hp => ?_) (fun hp => ?_)) | (with_reducible refine Br_not ?_) | (with_reducible refine Br_bool (fun hp => ?_) (fun hp => ?_)) | (with_reducible refine bG_dec (fun hp => ?_) (fun hp => ?_)) | (with_reducible refine bG_bool' (fun hp => ?_) (fun hp => ?_)) | (refine bC_pure htx fun v hv => ?_; obtain ⟨tx, rfl, htl⟩ := hv) | (refine bC_spec (WriteString_ok _ h1.next 190 bs tx ht (hb.same (by simp [go_sem] <;> omega) fun j hj => by simp (disch := omega) [go_sem]) (by omega)) fun v h3 hv => ?_; obtain ⟨a1, a2, a3⟩ := hv) | ((with_reducible refine Go_regD _ _ ?hn ?_); case hn => rfl) | ((with_reducible refine Go_regN _ _ ?hn ?_); case hn => rfl) | (with_reducible refine dE_some ?_ ?_) | (with_reducible refine dN_some ?_ ?_) | (with_reducible refine dN_some' ?_ ?_) | ((with_reducible refine Rd_dG ?hn _ _ _ _ _ ?_); case hn => rfl) | (with_reducible refine dG_dec (fun hp => ?_) (fun hp => ?_)) | (with_reducible refine dG_bool' (fun hp => ?_) (fun hp => ?_)) | (with_reducible refine Rd_nil' ?_))
                refine hQ2 _ _ (tx.map Int.ofNat) ?_ ?_ ?_ ?_ (by simp; omega) a2 <;> simp (disch := omega) [go_sem, *]
              · repeat' (first | (simp (disch := omega) [go_sem, S58, steps, Step.av, Step.cells, *]) | (omega) | (with_reducible refine Br_dec (fun hp => ?_) (fun hp => ?_)) | (with_reducible refine Br_not ?_) | (with_reducible refine Br_bool (fun hp => ?_) (fun hp => ?_)) | (with_reducible refine bG_dec (fun hp => ?_) (fun hp => ?_)) | (with_reducible refine bG_bool' (fun hp => ?_) (fun hp => ?_)) | (refine bC_pure htx fun v hv => ?_; obtain ⟨tx, rfl, htl⟩ := hv) | (refine bC_spec (WriteByte_ok _ h1.next 190 bs 46 ht (hb.same (by simp [go_sem] <;> omega) fun j hj => by simp (disch := omega) [go_sem]) (by omega)) fun v h3 hv => ?_; obtain ⟨rfl, b1, b2, b3⟩ := hv) | (refine bC_spec (WriteString_ok _ h1.next 190 _ tx ht b2 (by simp <;> omega)) fun v h4 hv => ?_; obtain ⟨a1, a2, a3⟩ := hv) | ((with_reducible refine Go_regD _ _ ?hn ?_); case hn => rfl) | ((with_reducible refine Go_regN _ _ ?hn ?_); case hn => rfl) | (with_reducible refine dE_some ?_ ?_) | (with_reducible refine dN_some ?_ ?_) | (with_reducible refine dN_some' ?_ ?_) | ((with_reducible refine Rd_dG ?hn _ _ _ _ _ ?_); case hn => rfl) | (with_reducible refine dG_dec (fun hp => ?_) (fun hp => ?_)) | (with_reducible refine dG_bool' (fun hp => ?_) (fun hp => ?_)) | (with_reducible refine Rd_nil' ?_))
                refine hQ2 _ _ ([46] ++ tx.map Int.ofNat) ?_ ?_ ?_ ?_ (by simp; omega) (by simpa using a2) <;> simp (disch := omega) [go_sem, *]
            · have e := hbad (by simp [badS, hat, c2])
              rw [c2] at htx
              clear hQ' hbad
              repeat' (first | (simp (disch := omega) [go_sem, S58, steps, Step.av, Step.cells, *]) | (omega) | (with_reducible refine Br_dec (fun hp => ?_) (fun hp => ?_)) | (with_reducible refine Br_not ?_) | (with_reducible refine Br_bool (fun hp => ?_) (fun hp => ?_)) | (with_reducible refine bG_dec (fun hp => ?_) (fun hp => ?_)) | (with_reducible refine bG_bool' (fun hp => ?_) (fun hp => ?_)) | (refine bC_pure htx fun v hv => ?_; obtain ⟨tx, rfl, htl⟩ := hv) | ((with_reducible refine Go_regD _ _ ?hn ?_); case hn => rfl) | ((with_reducible refine Go_regN _ _ ?hn ?_); case hn => rfl) | (with_reducible refine dE_some ?_ ?_) | (with_reducible refine dN_some ?_ ?_) | (with_reducible refine dN_some' ?_ ?_) | ((with_reducible refine Rd_dG ?hn _ _ _ _ _ ?_); case hn => rfl) | (with_reducible refine dG_dec (fun hp => ?_) (fun hp => ?_)) | (with_reducible refine dG_bool' (fun hp => ?_) (fun hp => ?_)) | (with_reducible refine Rd_nil' ?_))
              exact ⟨_, Le.refl _, _, rfl⟩
          · have hk : 0 ≤ l[j].index ∧ l[j].index ≤ 999999 := by
              simp [longS, hat] at hlg; omega
            have hit := itoa_ok l[j].index (by omega) (by omega)
            have hil := itoa_short l[j].index hk.1 hk.2
            generalize itoa l[j].index = it at *
            have hx1 : [91].length + it.length ≤ 9223372036854775807 := by simp; omega
            have hx2 : (91 :: it).length + [93].length ≤ 9223372036854775807 := by simp; omega
            have hQ2 := hQ' (by simp [badS, hat])
            clear hQ' hbad
            repeat' (first | (simp (disch := omega) [go_sem, S58, steps, Step.av, Step.cells, *]) | (omega) | (with_reducible refine Br_dec (fun hp => ?_) (fun hp => ?_)) | (with_reducible refine Br_not ?_) | (with_reducible refine Br_bool (fun hp => ?_) (fun hp => ?_)) | (with_reducible refine bG_dec (fun hp => ?_) (fun hp => ?_)) | (with_reducible refine bG_bool' (fun hp => ?_) (fun hp => ?_)) | (refine bC_v hit ?_) | (refine bC_spec (WriteString_ok _ h1.next 190 bs _ ht (hb.same (by simp [go_sem] <;> omega) fun j hj => by simp (disch := omega) [go_sem]) (by simp <;> omega)) fun v h3 hv => ?_; obtain ⟨a1, a2, a3⟩ := hv) | ((with_reducible refine Go_regD _ _ ?hn ?_); case hn => rfl) | ((with_reducible refine Go_regN _ _ ?hn ?_); case hn => rfl) | (with_reducible refine dE_some ?_ ?_) | (with_reducible refine dN_some ?_ ?_) | (with_reducible refine dN_some' ?_ ?_) | ((with_reducible refine Rd_dG ?hn _ _ _ _ _ ?_); case hn => rfl) | (with_reducible refine dG_dec (fun hp => ?_) (fun hp => ?_)) | (with_reducible refine dG_bool' (fun hp => ?_) (fun hp => ?_)) | (with_reducible refine Rd_nil' ?_))
            refine hQ2 _ _ _ ?_ ?_ ?_ ?_ ?_ a2 <;> first | (simp (disch := omega) [go_sem, *]; done) | (simp; omega)
        · have hnb' : l.any badS = false := by
            rw [List.take_of_length_le (by omega)] at hnb
            apply Bool.eq_false_iff.2
            intro hc
            obtain ⟨x, h1, h2⟩ := List.any_eq_true.1 hc
            rw [hnb x h1] at h2; cases h2
          have e : pathE l = 0 := by
            unfold pathE
            rw [if_neg c1, hnl, hnb']; rfl
          have hst := String_ok h2 h1.next 190 bs hb (by omega)
          clear hQ hno hnb
          repeat' (first | (simp (disch := omega) [go_sem, S58, steps, Step.av, Step.cells, *]) | (omega) | (with_reducible refine Br_dec (fun hp => ?_) (fun hp => ?_)) | (with_reducible refine Br_not ?_) | (with_reducible refine Br_bool (fun hp => ?_) (fun hp => ?_)) | (with_reducible refine bG_dec (fun hp => ?_) (fun hp => ?_)) | (with_reducible refine bG_bool' (fun hp => ?_) (fun hp => ?_)) | (refine bC_spec hst fun v h2 hv => ?_; obtain ⟨rfl, a1, a2⟩ := hv) | ((with_reducible refine Go_regD _ _ ?hn ?_); case hn => rfl) | ((with_reducible refine Go_regN _ _ ?hn ?_); case hn => rfl) | (with_reducible refine dE_some ?_ ?_) | (with_reducible refine dN_some ?_ ?_) | (with_reducible refine dN_some' ?_ ?_) | ((with_reducible refine Rd_dG ?hn _ _ _ _ _ ?_); case hn => rfl) | (with_reducible refine dG_dec (fun hp => ?_) (fun hp => ?_)) | (with_reducible refine dG_bool' (fun hp => ?_) (fun hp => ?_)) | (with_reducible refine Rd_nil' ?_))
          exact ⟨_, Le.refl _, _, rfl⟩
end Go.Eng.Tryz
set_option maxRecDepth 20000
set_option maxHeartbeats 1000000
namespace Go.Eng.Tryz
open Go.Eng Go.Proofs Go.RowKit
theorem entF_mem (g : Graph) : ∀ (l : List (Int × Int)) (m : List ((Int × List Nat) × (Int × Int))) (k : Int × List Nat) (p : Int × Int), getA k (l.foldl (fun m p => putA (keyAt g p.1) p m) m) = some p → (p ∈ l ∧ keyAt g p.1 = k) ∨ getA k m = some p
  | [], m, k, p, h => .inr h
  | x :: l, m, k, p, h => by
    rcases entF_mem g l _ k p h with h1 | h1
    · exact .inl ⟨List.mem_cons_of_mem _ h1.1, h1.2⟩
    · rw [getA_put] at h1
      split at h1
      · rename_i hk
        injection h1 with h1; subst h1
        exact .inl ⟨List.mem_cons_self, hk.symm⟩
      · exact .inr h1
theorem pairs_sub : ∀ {l : List Int} {p : Int × Int}, p ∈ pairsL l → p.1 ∈ l ∧ p.2 ∈ l
  | a :: b :: l, p, h => by
    simp only [pairsL, List.mem_cons] at h
    rcases h with rfl | h
    · simp
    · have := pairs_sub h
      exact ⟨by simp [this.1], by simp [this.2]⟩
  | [], p, h => by simp [pairsL] at h
  | [a], p, h => by simp [pairsL] at h
theorem findR_spec {g : Graph} {a k : Int} {s : List Nat} {y : Int} (h : findR g a k s = some y) : rightR g = true ∧ 0 ≤ a ∧ ∃ n, g.nodes[a.toNat]? = some n ∧ n.kind = 6 ∧ ∃ x, (x, y) ∈ pairsL n.kids ∧ keyAt g x = (k, s) := by
  unfold findR at h
  split at h
  · rename_i h1
    refine ⟨h1.1, h1.2, ?_⟩
    split at h
    · rename_i n hn
      refine ⟨n, hn, ?_⟩
      split at h
      · rename_i hk
        obtain ⟨p, hp, rfl⟩ := Option.map_eq_some_iff.1 h
        rcases entF_mem g (pairsL n.kids) [] (k, s) p hp with h2 | h2
        · exact ⟨hk, p.1, h2.1, h2.2⟩
        · cases h2
      · cases h
    · cases h
  · cases h
theorem findR_range {g : Graph} {a k : Int} {s : List Nat} {y : Int} (h : findR g a k s = some y) : 0 ≤ y ∧ y < g.nodes.length := by
  obtain ⟨h1, _, n, h2, _, x, h3, _⟩ := findR_spec h
  exact isNode_kids ((right_parts h1).2.2.2 n (List.mem_of_getElem? h2)) y (pairs_sub h3).2
/-! ### Get -/
def stepTo (g : Graph) (a : Int) (x : Step) : Int × Int :=
  match g.nodes[a.toNat]? with
  | none => (0, 17)
  | some n => if x.isAt then (if n.kind = 5 then (match n.kids[x.index.toNat]? with
      | some k => (k, 0)
      | none => (0, 6)) else (0, 17))
    else if n.kind = 6 then (match findR g a 4 x.key with
      | some k => (k, 0)
      | none => (0, 6)) else (0, 17)
def walkR (g : Graph) : Int → List Step → Int × Int
  | a, [] => (a, 0)
  | a, x :: l => if (stepTo g a x).2 = 0 then walkR g (stepTo g a x).1 l else (0, (stepTo g a x).2)
def getR (g : Graph) (l : List Step) : Int × Int := if pathE l = 0 ∧ rightR g = true then walkR g g.root l else (0, 1)
theorem pathE_zero {l : List Step} (h : pathE l = 0) : l.length ≤ 64 ∧ ∀ x ∈ l, longS x = false ∧ badS x = false := by
  unfold pathE at h
  split at h
  · cases h
  · split at h
    · cases h
    · split at h
      · cases h
      · rename_i h1 h2 h3
        refine ⟨by omega, fun x hx => ⟨?_, ?_⟩⟩
        · apply Bool.eq_false_iff.2; intro hc; exact h2 (List.any_eq_true.2 ⟨x, hx, hc⟩)
        · apply Bool.eq_false_iff.2; intro hc; exact h3 (List.any_eq_true.2 ⟨x, hx, hc⟩)
theorem drop_at {α : Type} (l : List α) (j : Nat) (h : j < l.length) : l.drop j = l[j] :: l.drop (j + 1) := (List.getElem_cons_drop h).symm
theorem drop_all {α : Type} (l : List α) (j : Nat) (h : ¬ j < l.length) : l.drop j = [] := List.drop_of_length_le (by omega)
theorem Get_ok (g : Graph) (hg : Small g) (l : List Step) : Puv 24 [g.av, steps l] (.tup [.int .i64 (getR g l).1, .int .i64 (getR g l).2]) := by
  refine pv ok24 (by simp [AV.clL, cl_graph, cl_steps]) rfl fun h => ?_
  have hf := FormatP_ok l
  have hright := Right_ok g hg
  have hgn := hg.nodes
  unfold fmtV steps at hf
  unfold Graph.av Graph.cells at hright
  generalize hG : getR g l = r
  by_cases c1 : pathE l = 0
  · rw [c1] at hf
    cases hr : rightR g with
    | false =>
      have e : r = (0, 1) := by rw [← hG]; simp [getR, hr]
      rw [hr] at hright
      repeat' (first | (simp (disch := omega) [go_sem, S24, steps, Graph.av, Graph.cells, *]) | (omega) | (with_reducible refine Br_dec (fun hp => ?_) (fun hp => ?_)) | (with_reducible refine Br_not ?_) | (with_reducible refine Br_bool (fun hp => ?_) (fun hp => ?_)) | (with_reducible refine bG_dec (fun hp => ?_) (fun hp => ?_)) | (with_reducible refine bG_bool' (fun hp => ?_) (fun hp => ?_)) | (refine bC_pure hf fun v hv => ?_; obtain ⟨t, rfl⟩ := hv) | (refine bC_v hright ?_) | ((with_reducible refine Go_regD _ _ ?hn ?_); case hn => rfl) | ((with_reducible refine Go_regN _ _ ?hn ?_); case hn => rfl) | (with_reducible refine dE_some ?_ ?_) | (with_reducible refine dN_some ?_ ?_) | (with_reducible refine dN_some' ?_ ?_) | ((with_reducible refine Rd_dG ?hn _ _ _ _ _ ?_); case hn => rfl) | (with_reducible refine dG_dec (fun hp => ?_) (fun hp => ?_)) | (with_reducible refine dG_bool' (fun hp => ?_) (fun hp => ?_)) | (with_reducible refine Rd_nil' ?_))
    | true =>
      have eW : getR g l = walkR g g.root l := by simp [getR, hr, c1]
      rw [hr] at hright
      obtain ⟨hp1, hp2⟩ := pathE_zero c1
      obtain ⟨hr1, hr2, hr3, hr4⟩ := right_parts hr
      repeat' (first | (simp (disch := omega) [go_sem, S24, steps, Graph.av, Graph.cells, *]) | (omega) | (with_reducible refine Br_dec (fun hp => ?_) (fun hp => ?_)) | (with_reducible refine Br_not ?_) | (with_reducible refine Br_bool (fun hp => ?_) (fun hp => ?_)) | (with_reducible refine bG_dec (fun hp => ?_) (fun hp => ?_)) | (with_reducible refine bG_bool' (fun hp => ?_) (fun hp => ?_)) | (refine bC_pure hf fun v hv => ?_; obtain ⟨t, rfl⟩ := hv) | (refine bC_v hright ?_) | ((with_reducible refine Go_regD _ _ ?hn ?_); case hn => rfl) | ((with_reducible refine Go_regN _ _ ?hn ?_); case hn => rfl) | (with_reducible refine dE_some ?_ ?_) | (with_reducible refine dN_some ?_ ?_) | (with_reducible refine dN_some' ?_ ?_) | ((with_reducible refine Rd_dG ?hn _ _ _ _ _ ?_); case hn => rfl) | (with_reducible refine dG_dec (fun hp => ?_) (fun hp => ?_)) | (with_reducible refine dG_bool' (fun hp => ?_) (fun hp => ?_)) | (with_reducible refine Rd_nil' ?_))
      clear hf hright
      refine Go_loop (fun m e h1 => ∃ (j : Nat) (a : Int), m = l.length - j ∧ j ≤ l.length ∧ e.get 8 = .int .i64 a ∧ 0 ≤ a ∧ a < g.nodes.length ∧ walkR g g.root l = walkR g a (l.drop j) ∧ e.get 29 = .int .i64 j ∧ e.get 28 = .int .i64 l.length ∧ e.get 27 = steps l ∧ e.get 2 = .ptr h.next 0 ∧ h.next < h1.next ∧ h1.get h.next = some (.cells g.cells 24 (some 0))) (n := l.length) ?_ ?_
      · refine ⟨0, g.root, ?_⟩
        simp (disch := omega) [go_sem, steps, Graph.cells, hr2, hr3]
      · rintro m e h1 ⟨j, a, rfl, hj, q8, ha0, ha1, hw, q29, q28, q27, q2, hn1, hgg⟩ Q hQ
        unfold steps at q27
        by_cases hlt : j < l.length
        · have hx : l[j]? = some l[j] := List.getElem?_eq_getElem hlt
          have hmem : l[j] ∈ l := List.getElem_mem hlt
          have han : a.toNat < g.nodes.length := by omega
          have hn : g.nodes[a.toNat]? = some g.nodes[a.toNat] := List.getElem?_eq_getElem han
          obtain ⟨hlg, -⟩ := hp2 _ hmem
          have hdr := drop_at l j hlt
          have hQ' : ∀ b, stepTo g a l[j] = (b, 0) → 0 ≤ b → b < g.nodes.length → ∀ e' h', e'.get 8 = .int .i64 b → e'.get 29 = .int .i64 ((j : Int) + 1) → e'.get 28 = .int .i64 l.length → e'.get 27 = steps l → e'.get 2 = .ptr h.next 0 → h1.next ≤ h'.next → h'.get h.next = some (.cells g.cells 24 (some 0)) → Q e' h' :=
            fun b hb hb0 hb1 e' h' r1 r2 r3 r4 r5 r6 r7 => hQ (l.length - (j + 1)) e' h' (by omega) ⟨j + 1, b, rfl, by omega, r1, hb0, hb1, by rw [hw, hdr]; simp [walkR, hb], r2, r3, r4, r5, by omega, r7⟩
          have herr : ∀ c, stepTo g a l[j] = (0, c) → c ≠ 0 → r = (0, c) := fun c hb hc => by
            rw [← hG, eW, hw, hdr]; simp [walkR, hb, hc]
          have hkids := isNode_kids (hr4 _ (List.getElem_mem han))
          have hgc := hg.each _ (List.getElem_mem han)
          have hfd := Find_ok g hg a 4 l[j].key
          clear hQ hw hr4 eW
          unfold steps at hQ'
          unfold Graph.cells at hgg hQ'
          unfold Graph.av Graph.cells at hfd
          cases hat : l[j].isAt
          · by_cases c2 : g.nodes[a.toNat].kind = 6
            · cases hfr : findR g a 4 l[j].key with
              | none =>
                have e2 := herr 6 (by simp [stepTo, hn, hat, c2, hfr]) (by decide)
                rw [hfr] at hfd
                clear hQ' herr hkids
                repeat' (first | (simp (disch := omega) [go_sem, S24, steps, Graph.av, Graph.cells, Node.av, Node.cells, ints, Step.av, Step.cells, optV, *]) | (omega) | (with_reducible refine Br_dec (fun hp => ?_) (fun hp => ?_)) | (with_reducible refine Br_not ?_) | (with_reducible refine Br_bool (fun hp => ?_) (fun hp => ?_)) | (with_reducible refine bG_dec (fun hp => ?_) (fun hp => ?_)) | (with_reducible refine bG_bool' (fun hp => ?_) (fun hp => ?_)) | (refine bC_v hfd ?_) | ((with_reducible refine Go_regD _ _ ?hn ?_); case hn => rfl) | ((with_reducible refine Go_regN _ _ ?hn ?_); case hn => rfl) | (with_reducible refine dE_some ?_ ?_) | (with_reducible refine dN_some ?_ ?_) | (with_reducible refine dN_some' ?_ ?_) | ((with_reducible refine Rd_dG ?hn _ _ _ _ _ ?_); case hn => rfl) | (with_reducible refine dG_dec (fun hp => ?_) (fun hp => ?_)) | (with_reducible refine dG_bool' (fun hp => ?_) (fun hp => ?_)) | (with_reducible refine Rd_nil' ?_))
              | some b =>
                obtain ⟨hb0, hb1⟩ := findR_range hfr
                have hQ2 := hQ' b (by simp [stepTo, hn, hat, c2, hfr]) hb0 hb1
                rw [hfr] at hfd
                clear hQ' herr hkids
                repeat' (first | (simp (disch := omega) [go_sem, S24, steps, Graph.av, Graph.cells, Node.av, Node.cells, ints, Step.av, Step.cells, optV, *]) | (omega) | (with_reducible refine Br_dec (fun hp => ?_) (fun hp => ?_)) | (with_reducible refine Br_not ?_) | (with_reducible refine Br_bool (fun hp => ?_) (fun hp => ?_)) | (with_reducible refine bG_dec (fun hp => ?_) (fun hp => ?_)) | (with_reducible refine bG_bool' (fun hp => ?_) (fun hp => ?_)) | (refine bC_v hfd ?_) | ((with_reducible refine Go_regD _ _ ?hn ?_); case hn => rfl) | ((with_reducible refine Go_regN _ _ ?hn ?_); case hn => rfl) | (with_reducible refine dE_some ?_ ?_) | (with_reducible refine dN_some ?_ ?_) | (with_reducible refine dN_some' ?_ ?_) | ((with_reducible refine Rd_dG ?hn _ _ _ _ _ ?_); case hn => rfl) | (with_reducible refine dG_dec (fun hp => ?_) (fun hp => ?_)) | (with_reducible refine dG_bool' (fun hp => ?_) (fun hp => ?_)) | (with_reducible refine Rd_nil' ?_))
                refine hQ2 _ _ ?_ ?_ ?_ ?_ ?_ ?_ ?_ <;> first | (simp (disch := omega) [go_sem, *]; done) | (simp [go_sem]; omega)
            · have e2 := herr 17 (by simp [stepTo, hn, hat, c2]) (by decide)
              clear hQ' herr hkids
              repeat' (first | (simp (disch := omega) [go_sem, S24, steps, Graph.av, Graph.cells, Node.av, Node.cells, ints, Step.av, Step.cells, optV, *]) | (omega) | (with_reducible refine Br_dec (fun hp => ?_) (fun hp => ?_)) | (with_reducible refine Br_not ?_) | (with_reducible refine Br_bool (fun hp => ?_) (fun hp => ?_)) | (with_reducible refine bG_dec (fun hp => ?_) (fun hp => ?_)) | (with_reducible refine bG_bool' (fun hp => ?_) (fun hp => ?_)) | (refine bC_v hfd ?_) | ((with_reducible refine Go_regD _ _ ?hn ?_); case hn => rfl) | ((with_reducible refine Go_regN _ _ ?hn ?_); case hn => rfl) | (with_reducible refine dE_some ?_ ?_) | (with_reducible refine dN_some ?_ ?_) | (with_reducible refine dN_some' ?_ ?_) | ((with_reducible refine Rd_dG ?hn _ _ _ _ _ ?_); case hn => rfl) | (with_reducible refine dG_dec (fun hp => ?_) (fun hp => ?_)) | (with_reducible refine dG_bool' (fun hp => ?_) (fun hp => ?_)) | (with_reducible refine Rd_nil' ?_))
          · simp [longS, hat] at hlg
            by_cases c2 : g.nodes[a.toNat].kind = 5
            · by_cases c3 : l[j].index < g.nodes[a.toNat].kids.length
              · have hki : l[j].index.toNat < g.nodes[a.toNat].kids.length := by omega
                have hkk : g.nodes[a.toNat].kids[l[j].index.toNat]? = some g.nodes[a.toNat].kids[l[j].index.toNat] := List.getElem?_eq_getElem hki
                obtain ⟨hb0, hb1⟩ := hkids _ (List.getElem_mem hki)
                have hQ2 := hQ' _ (by simp only [stepTo, hn, hat, c2, hkk, if_true]) hb0 hb1
                clear hQ' herr hkids hfd
                repeat' (first | (simp (disch := omega) [go_sem, S24, steps, Graph.av, Graph.cells, Node.av, Node.cells, ints, Step.av, Step.cells, optV, *]) | (omega) | (with_reducible refine Br_dec (fun hp => ?_) (fun hp => ?_)) | (with_reducible refine Br_not ?_) | (with_reducible refine Br_bool (fun hp => ?_) (fun hp => ?_)) | (with_reducible refine bG_dec (fun hp => ?_) (fun hp => ?_)) | (with_reducible refine bG_bool' (fun hp => ?_) (fun hp => ?_)) | ((with_reducible refine Go_regD _ _ ?hn ?_); case hn => rfl) | ((with_reducible refine Go_regN _ _ ?hn ?_); case hn => rfl) | (with_reducible refine dE_some ?_ ?_) | (with_reducible refine dN_some ?_ ?_) | (with_reducible refine dN_some' ?_ ?_) | ((with_reducible refine Rd_dG ?hn _ _ _ _ _ ?_); case hn => rfl) | (with_reducible refine dG_dec (fun hp => ?_) (fun hp => ?_)) | (with_reducible refine dG_bool' (fun hp => ?_) (fun hp => ?_)) | (with_reducible refine Rd_nil' ?_))
                refine hQ2 _ _ ?_ ?_ ?_ ?_ ?_ ?_ ?_ <;> first | (simp (disch := omega) [go_sem, *]; done) | (simp [go_sem]; omega)
              · have hkk : g.nodes[a.toNat].kids[l[j].index.toNat]? = none := List.getElem?_eq_none (by omega)
                have e2 := herr 6 (by simp only [stepTo, hn, hat, c2, hkk, if_true]) (by decide)
                clear hQ' herr hkids hfd
                repeat' (first | (simp (disch := omega) [go_sem, S24, steps, Graph.av, Graph.cells, Node.av, Node.cells, ints, Step.av, Step.cells, optV, *]) | (omega) | (with_reducible refine Br_dec (fun hp => ?_) (fun hp => ?_)) | (with_reducible refine Br_not ?_) | (with_reducible refine Br_bool (fun hp => ?_) (fun hp => ?_)) | (with_reducible refine bG_dec (fun hp => ?_) (fun hp => ?_)) | (with_reducible refine bG_bool' (fun hp => ?_) (fun hp => ?_)) | ((with_reducible refine Go_regD _ _ ?hn ?_); case hn => rfl) | ((with_reducible refine Go_regN _ _ ?hn ?_); case hn => rfl) | (with_reducible refine dE_some ?_ ?_) | (with_reducible refine dN_some ?_ ?_) | (with_reducible refine dN_some' ?_ ?_) | ((with_reducible refine Rd_dG ?hn _ _ _ _ _ ?_); case hn => rfl) | (with_reducible refine dG_dec (fun hp => ?_) (fun hp => ?_)) | (with_reducible refine dG_bool' (fun hp => ?_) (fun hp => ?_)) | (with_reducible refine Rd_nil' ?_))
            · have e2 := herr 17 (by simp [stepTo, hn, hat, c2]) (by decide)
              clear hQ' herr hkids hfd
              repeat' (first | (simp (disch := omega) [go_sem, S24, steps, Graph.av, Graph.cells, Node.av, Node.cells, ints, Step.av, Step.cells, optV, *]) | (omega) | (with_reducible refine Br_dec (fun hp => ?_) (fun hp => ?_)) | (with_reducible refine Br_not ?_) | (with_reducible refine Br_bool (fun hp => ?_) (fun hp => ?_)) | (with_reducible refine bG_dec (fun hp => ?_) (fun hp => ?_)) | (with_reducible refine bG_bool' (fun hp => ?_) (fun hp => ?_)) | ((with_reducible refine Go_regD _ _ ?hn ?_); case hn => rfl) | ((with_reducible refine Go_regN _ _ ?hn ?_); case hn => rfl) | (with_reducible refine dE_some ?_ ?_) | (with_reducible refine dN_some ?_ ?_) | (with_reducible refine dN_some' ?_ ?_) | ((with_reducible refine Rd_dG ?hn _ _ _ _ _ ?_); case hn => rfl) | (with_reducible refine dG_dec (fun hp => ?_) (fun hp => ?_)) | (with_reducible refine dG_bool' (fun hp => ?_) (fun hp => ?_)) | (with_reducible refine Rd_nil' ?_))
        · have hdr := drop_all l j hlt
          have e2 : r = (a, 0) := by rw [← hG, eW, hw, hdr]; rfl
          clear hQ hr4 eW
          repeat' (first | (simp (disch := omega) [go_sem, S24, steps, Graph.av, Graph.cells, Node.av, Node.cells, ints, Step.av, Step.cells, optV, *]) | (omega) | (with_reducible refine Br_dec (fun hp => ?_) (fun hp => ?_)) | (with_reducible refine Br_not ?_) | (with_reducible refine Br_bool (fun hp => ?_) (fun hp => ?_)) | (with_reducible refine bG_dec (fun hp => ?_) (fun hp => ?_)) | (with_reducible refine bG_bool' (fun hp => ?_) (fun hp => ?_)) | ((with_reducible refine Go_regD _ _ ?hn ?_); case hn => rfl) | ((with_reducible refine Go_regN _ _ ?hn ?_); case hn => rfl) | (with_reducible refine dE_some ?_ ?_) | (with_reducible refine dN_some ?_ ?_) | (with_reducible refine dN_some' ?_ ?_) | ((with_reducible refine Rd_dG ?hn _ _ _ _ _ ?_); case hn => rfl) | (with_reducible refine dG_dec (fun hp => ?_) (fun hp => ?_)) | (with_reducible refine dG_bool' (fun hp => ?_) (fun hp => ?_)) | (with_reducible refine Rd_nil' ?_))
  · have e : r = (0, 1) := by rw [← hG]; simp [getR, c1]
    repeat' (first | (simp (disch := omega) [go_sem, S24, steps, Graph.av, Graph.cells, *]) | (omega) | (with_reducible refine Br_dec (fun hp => ?_) (fun hp => ?_)) | (with_reducible refine Br_not ?_) | (with_reducible refine Br_bool (fun hp => ?_) (fun hp => ?_)) | (with_reducible refine bG_dec (fun hp => ?_) (fun hp => ?_)) | (with_reducible refine bG_bool' (fun hp => ?_) (fun hp => ?_)) | (refine bC_pure hf fun v hv => ?_; obtain ⟨t, rfl⟩ := hv) | (refine bC_v hright ?_) | ((with_reducible refine Go_regD _ _ ?hn ?_); case hn => rfl) | ((with_reducible refine Go_regN _ _ ?hn ?_); case hn => rfl) | (with_reducible refine dE_some ?_ ?_) | (with_reducible refine dN_some ?_ ?_) | (with_reducible refine dN_some' ?_ ?_) | ((with_reducible refine Rd_dG ?hn _ _ _ _ _ ?_); case hn => rfl) | (with_reducible refine dG_dec (fun hp => ?_) (fun hp => ?_)) | (with_reducible refine dG_bool' (fun hp => ?_) (fun hp => ?_)) | (with_reducible refine Rd_nil' ?_))
end Go.Eng.Tryz
set_option maxRecDepth 20000
set_option maxHeartbeats 1000000
namespace Go.Eng.Tryz
open Go.Eng Go.Proofs Go.RowKit
structure Part where
  kind : Int
  text : List Nat
  value : List Nat
  n : Int
deriving DecidableEq
def Part.cells (x : Part) : List AV := [.int .i64 x.kind, .str x.text, .str x.value, .int .i64 x.n]
def Part.av (x : Part) : AV := .agg x.cells
def parts (l : List Part) : AV := .fsl false 4 (l.map Part.av)
theorem cl_parts {p : Nat → Bool} (l : List Part) : AV.cl p (parts l) = true := by
  unfold parts
  simp only [AV.cl]
  exact clL_map _ _ fun x => by simp [Part.av, Part.cells, AV.cl, AV.clL]
theorem cl_part {p : Nat → Bool} (x : Part) : AV.cl p x.av = true := by simp [Part.av, Part.cells, AV.cl, AV.clL]
/-! ### one part -/
theorem fields_ok (k : Int) : Puv 151 [.int .i64 k] (.tup [.bool (decide (k = 1 ∨ k = 6)), .bool (decide (k = 6)), .bool (decide (k = 4)), .bool (decide (1 ≤ k ∧ k ≤ 6))]) := by
  refine pv ok151 rfl rfl fun h => ?_
  by_cases c1 : k = 1
  · subst c1; repeat' (first | (simp (disch := omega) [go_sem, S151, *]) | (omega) | (with_reducible refine Br_dec (fun hp => ?_) (fun hp => ?_)) | (with_reducible refine Br_not ?_) | (with_reducible refine Br_bool (fun hp => ?_) (fun hp => ?_)) | (with_reducible refine bG_dec (fun hp => ?_) (fun hp => ?_)) | (with_reducible refine bG_bool' (fun hp => ?_) (fun hp => ?_)) | ((with_reducible refine Go_regD _ _ ?hn ?_); case hn => rfl) | ((with_reducible refine Go_regN _ _ ?hn ?_); case hn => rfl) | (with_reducible refine dE_some ?_ ?_) | (with_reducible refine dN_some ?_ ?_) | (with_reducible refine dN_some' ?_ ?_) | ((with_reducible refine Rd_dG ?hn _ _ _ _ _ ?_); case hn => rfl) | (with_reducible refine dG_dec (fun hp => ?_) (fun hp => ?_)) | (with_reducible refine dG_bool' (fun hp => ?_) (fun hp => ?_)) | (with_reducible refine Rd_nil' ?_))
  by_cases c2 : k = 2
  · subst c2; repeat' (first | (simp (disch := omega) [go_sem, S151, *]) | (omega) | (with_reducible refine Br_dec (fun hp => ?_) (fun hp => ?_)) | (with_reducible refine Br_not ?_) | (with_reducible refine Br_bool (fun hp => ?_) (fun hp => ?_)) | (with_reducible refine bG_dec (fun hp => ?_) (fun hp => ?_)) | (with_reducible refine bG_bool' (fun hp => ?_) (fun hp => ?_)) | ((with_reducible refine Go_regD _ _ ?hn ?_); case hn => rfl) | ((with_reducible refine Go_regN _ _ ?hn ?_); case hn => rfl) | (with_reducible refine dE_some ?_ ?_) | (with_reducible refine dN_some ?_ ?_) | (with_reducible refine dN_some' ?_ ?_) | ((with_reducible refine Rd_dG ?hn _ _ _ _ _ ?_); case hn => rfl) | (with_reducible refine dG_dec (fun hp => ?_) (fun hp => ?_)) | (with_reducible refine dG_bool' (fun hp => ?_) (fun hp => ?_)) | (with_reducible refine Rd_nil' ?_))
  by_cases c3 : k = 3
  · subst c3; repeat' (first | (simp (disch := omega) [go_sem, S151, *]) | (omega) | (with_reducible refine Br_dec (fun hp => ?_) (fun hp => ?_)) | (with_reducible refine Br_not ?_) | (with_reducible refine Br_bool (fun hp => ?_) (fun hp => ?_)) | (with_reducible refine bG_dec (fun hp => ?_) (fun hp => ?_)) | (with_reducible refine bG_bool' (fun hp => ?_) (fun hp => ?_)) | ((with_reducible refine Go_regD _ _ ?hn ?_); case hn => rfl) | ((with_reducible refine Go_regN _ _ ?hn ?_); case hn => rfl) | (with_reducible refine dE_some ?_ ?_) | (with_reducible refine dN_some ?_ ?_) | (with_reducible refine dN_some' ?_ ?_) | ((with_reducible refine Rd_dG ?hn _ _ _ _ _ ?_); case hn => rfl) | (with_reducible refine dG_dec (fun hp => ?_) (fun hp => ?_)) | (with_reducible refine dG_bool' (fun hp => ?_) (fun hp => ?_)) | (with_reducible refine Rd_nil' ?_))
  by_cases c4 : k = 4
  · subst c4; repeat' (first | (simp (disch := omega) [go_sem, S151, *]) | (omega) | (with_reducible refine Br_dec (fun hp => ?_) (fun hp => ?_)) | (with_reducible refine Br_not ?_) | (with_reducible refine Br_bool (fun hp => ?_) (fun hp => ?_)) | (with_reducible refine bG_dec (fun hp => ?_) (fun hp => ?_)) | (with_reducible refine bG_bool' (fun hp => ?_) (fun hp => ?_)) | ((with_reducible refine Go_regD _ _ ?hn ?_); case hn => rfl) | ((with_reducible refine Go_regN _ _ ?hn ?_); case hn => rfl) | (with_reducible refine dE_some ?_ ?_) | (with_reducible refine dN_some ?_ ?_) | (with_reducible refine dN_some' ?_ ?_) | ((with_reducible refine Rd_dG ?hn _ _ _ _ _ ?_); case hn => rfl) | (with_reducible refine dG_dec (fun hp => ?_) (fun hp => ?_)) | (with_reducible refine dG_bool' (fun hp => ?_) (fun hp => ?_)) | (with_reducible refine Rd_nil' ?_))
  by_cases c5 : k = 5
  · subst c5; repeat' (first | (simp (disch := omega) [go_sem, S151, *]) | (omega) | (with_reducible refine Br_dec (fun hp => ?_) (fun hp => ?_)) | (with_reducible refine Br_not ?_) | (with_reducible refine Br_bool (fun hp => ?_) (fun hp => ?_)) | (with_reducible refine bG_dec (fun hp => ?_) (fun hp => ?_)) | (with_reducible refine bG_bool' (fun hp => ?_) (fun hp => ?_)) | ((with_reducible refine Go_regD _ _ ?hn ?_); case hn => rfl) | ((with_reducible refine Go_regN _ _ ?hn ?_); case hn => rfl) | (with_reducible refine dE_some ?_ ?_) | (with_reducible refine dN_some ?_ ?_) | (with_reducible refine dN_some' ?_ ?_) | ((with_reducible refine Rd_dG ?hn _ _ _ _ _ ?_); case hn => rfl) | (with_reducible refine dG_dec (fun hp => ?_) (fun hp => ?_)) | (with_reducible refine dG_bool' (fun hp => ?_) (fun hp => ?_)) | (with_reducible refine Rd_nil' ?_))
  by_cases c6 : k = 6
  · subst c6; repeat' (first | (simp (disch := omega) [go_sem, S151, *]) | (omega) | (with_reducible refine Br_dec (fun hp => ?_) (fun hp => ?_)) | (with_reducible refine Br_not ?_) | (with_reducible refine Br_bool (fun hp => ?_) (fun hp => ?_)) | (with_reducible refine bG_dec (fun hp => ?_) (fun hp => ?_)) | (with_reducible refine bG_bool' (fun hp => ?_) (fun hp => ?_)) | ((with_reducible refine Go_regD _ _ ?hn ?_); case hn => rfl) | ((with_reducible refine Go_regN _ _ ?hn ?_); case hn => rfl) | (with_reducible refine dE_some ?_ ?_) | (with_reducible refine dN_some ?_ ?_) | (with_reducible refine dN_some' ?_ ?_) | ((with_reducible refine Rd_dG ?hn _ _ _ _ _ ?_); case hn => rfl) | (with_reducible refine dG_dec (fun hp => ?_) (fun hp => ?_)) | (with_reducible refine dG_bool' (fun hp => ?_) (fun hp => ?_)) | (with_reducible refine Rd_nil' ?_))
  have e : ¬ (1 ≤ k ∧ k ≤ 6) := by omega
  repeat' (first | (simp (disch := omega) [go_sem, S151, *]) | (omega) | (with_reducible refine Br_dec (fun hp => ?_) (fun hp => ?_)) | (with_reducible refine Br_not ?_) | (with_reducible refine Br_bool (fun hp => ?_) (fun hp => ?_)) | (with_reducible refine bG_dec (fun hp => ?_) (fun hp => ?_)) | (with_reducible refine bG_bool' (fun hp => ?_) (fun hp => ?_)) | ((with_reducible refine Go_regD _ _ ?hn ?_); case hn => rfl) | ((with_reducible refine Go_regN _ _ ?hn ?_); case hn => rfl) | (with_reducible refine dE_some ?_ ?_) | (with_reducible refine dN_some ?_ ?_) | (with_reducible refine dN_some' ?_ ?_) | ((with_reducible refine Rd_dG ?hn _ _ _ _ _ ?_); case hn => rfl) | (with_reducible refine dG_dec (fun hp => ?_) (fun hp => ?_)) | (with_reducible refine dG_bool' (fun hp => ?_) (fun hp => ?_)) | (with_reducible refine Rd_nil' ?_))
def isPartR (x : Part) : Bool := decide (1 ≤ x.kind ∧ x.kind ≤ 6) && (decide (x.kind = 1 ∨ x.kind = 6) || decide (x.text = [])) && (decide (x.kind = 6) || decide (x.value = [])) && (decide (x.kind = 4) || decide (x.n = 0))
theorem isPart_ok (x : Part) : Puv 104 [x.av] (.bool (isPartR x)) := by
  refine pv ok104 (by simp [AV.clL, cl_part]) rfl fun h => ?_
  have hf := fields_ok x.kind
  unfold isPartR
  generalize decide (1 ≤ x.kind ∧ x.kind ≤ 6) = a at *
  generalize decide (x.kind = 1 ∨ x.kind = 6) = b at *
  generalize decide (x.kind = 6) = c at *
  generalize decide (x.kind = 4) = d at *
  cases a <;> cases b <;> cases c <;> cases d <;> repeat' (first | (simp (disch := omega) [go_sem, S104, Part.av, Part.cells, *]) | (omega) | (with_reducible refine Br_dec (fun hp => ?_) (fun hp => ?_)) | (with_reducible refine Br_not ?_) | (with_reducible refine Br_bool (fun hp => ?_) (fun hp => ?_)) | (with_reducible refine bG_dec (fun hp => ?_) (fun hp => ?_)) | (with_reducible refine bG_bool' (fun hp => ?_) (fun hp => ?_)) | (refine bC_v hf ?_) | ((with_reducible refine Go_regD _ _ ?hn ?_); case hn => rfl) | ((with_reducible refine Go_regN _ _ ?hn ?_); case hn => rfl) | (with_reducible refine dE_some ?_ ?_) | (with_reducible refine dN_some ?_ ?_) | (with_reducible refine dN_some' ?_ ?_) | ((with_reducible refine Rd_dG ?hn _ _ _ _ _ ?_); case hn => rfl) | (with_reducible refine dG_dec (fun hp => ?_) (fun hp => ?_)) | (with_reducible refine dG_bool' (fun hp => ?_) (fun hp => ?_)) | (with_reducible refine Rd_nil' ?_))
def isLongR (x : Part) : Bool := decide (256 < x.text.length) || decide (256 < x.value.length) || decide (x.n < 0) || decide (999999 < x.n)
theorem isLong_ok (x : Part) : Puv 105 [x.av] (.bool (isLongR x)) := by
  refine pv ok105 (by simp [AV.clL, cl_part]) rfl fun h => ?_
  unfold isLongR
  repeat' (first | (simp (disch := omega) [go_sem, S105, Part.av, Part.cells, *]) | (omega) | (with_reducible refine Br_dec (fun hp => ?_) (fun hp => ?_)) | (with_reducible refine Br_not ?_) | (with_reducible refine Br_bool (fun hp => ?_) (fun hp => ?_)) | (with_reducible refine bG_dec (fun hp => ?_) (fun hp => ?_)) | (with_reducible refine bG_bool' (fun hp => ?_) (fun hp => ?_)) | ((with_reducible refine Go_regD _ _ ?hn ?_); case hn => rfl) | ((with_reducible refine Go_regN _ _ ?hn ?_); case hn => rfl) | (with_reducible refine dE_some ?_ ?_) | (with_reducible refine dN_some ?_ ?_) | (with_reducible refine dN_some' ?_ ?_) | ((with_reducible refine Rd_dG ?hn _ _ _ _ _ ?_); case hn => rfl) | (with_reducible refine dG_dec (fun hp => ?_) (fun hp => ?_)) | (with_reducible refine dG_bool' (fun hp => ?_) (fun hp => ?_)) | (with_reducible refine Rd_nil' ?_))
theorem noPart_ok (x : Part) : Puv 103 [x.av] (.bool (!isPartR x)) := by
  refine pv ok103 (by simp [AV.clL, cl_part]) rfl fun h => ?_
  have hf := isPart_ok x
  unfold Part.av Part.cells at hf
  repeat' (first | (simp (disch := omega) [go_sem, S103, Part.av, Part.cells, *]) | (omega) | (with_reducible refine Br_dec (fun hp => ?_) (fun hp => ?_)) | (with_reducible refine Br_not ?_) | (with_reducible refine Br_bool (fun hp => ?_) (fun hp => ?_)) | (with_reducible refine bG_dec (fun hp => ?_) (fun hp => ?_)) | (with_reducible refine bG_bool' (fun hp => ?_) (fun hp => ?_)) | (refine bC_v hf ?_) | ((with_reducible refine Go_regD _ _ ?hn ?_); case hn => rfl) | ((with_reducible refine Go_regN _ _ ?hn ?_); case hn => rfl) | (with_reducible refine dE_some ?_ ?_) | (with_reducible refine dN_some ?_ ?_) | (with_reducible refine dN_some' ?_ ?_) | ((with_reducible refine Rd_dG ?hn _ _ _ _ _ ?_); case hn => rfl) | (with_reducible refine dG_dec (fun hp => ?_) (fun hp => ?_)) | (with_reducible refine dG_bool' (fun hp => ?_) (fun hp => ?_)) | (with_reducible refine Rd_nil' ?_))
/-! ### looking through -/
theorem indexParts_ok (l : List Part) (p : Part → Bool) (f : FuncId) (h : H) (hl : l.length < 1099511627776) (hc : ∀ x ∈ l, Puv f [x.av] (.bool (p x))) :
    Spc 150 [parts l, .fn f [] []] h fun v h' => v = .int .i64 (idxF p l) ∧ h' = h := by
  refine sg ok150 rfl ?_
  repeat' (first | (simp (disch := omega) [go_sem, S150, parts, *]) | (omega) | (with_reducible refine Br_dec (fun hp => ?_) (fun hp => ?_)) | (with_reducible refine Br_not ?_) | (with_reducible refine Br_bool (fun hp => ?_) (fun hp => ?_)) | (with_reducible refine bG_dec (fun hp => ?_) (fun hp => ?_)) | (with_reducible refine bG_bool' (fun hp => ?_) (fun hp => ?_)) | ((with_reducible refine Go_regD _ _ ?hn ?_); case hn => rfl) | ((with_reducible refine Go_regN _ _ ?hn ?_); case hn => rfl) | (with_reducible refine dE_some ?_ ?_) | (with_reducible refine dN_some ?_ ?_) | (with_reducible refine dN_some' ?_ ?_) | ((with_reducible refine Rd_dG ?hn _ _ _ _ _ ?_); case hn => rfl) | (with_reducible refine dG_dec (fun hp => ?_) (fun hp => ?_)) | (with_reducible refine dG_bool' (fun hp => ?_) (fun hp => ?_)) | (with_reducible refine Rd_nil' ?_))
  refine Go_loop (fun m e h1 => h1 = h ∧ ∃ i : Nat, m = l.length - i ∧ i ≤ l.length ∧ e.get 8 = .int .i64 i ∧ e.get 0 = parts l ∧ e.get 1 = .fn f [] [] ∧ e.get 7 = .int .i64 l.length ∧ ∀ (j : Nat) y, j < i → l[j]? = some y → p y = false) (n := l.length) ?_ ?_
  · refine ⟨rfl, 0, by omega, by omega, ?_, ?_, ?_, ?_, fun j y hj => by omega⟩ <;> simp (disch := omega) [go_sem, parts]
  · rintro m e h1 ⟨rfl, i, rfl, hi, h8, h0, hf, h7, hno⟩ Q hQ
    unfold parts at h0
    by_cases hlt : i < l.length
    · have hx : l[i]? = some l[i] := List.getElem?_eq_getElem hlt
      have hcx := hc l[i] (List.getElem_mem hlt)
      have hfound := fun hp => idxF_found (p := p) hno hx hp
      have hgo : ∀ e', p l[i] = false → e'.get 8 = .int .i64 ((i : Int) + 1) → e'.get 0 = parts l → e'.get 1 = .fn f [] [] → e'.get 7 = .int .i64 l.length → Q e' h1 :=
        fun e' hp q1 q2 q3 q4 => hQ (l.length - (i + 1)) e' h1 (by omega) ⟨rfl, i + 1, rfl, by omega, q1, q2, q3, q4, fun j y hj hy => by
          by_cases hji : j = i
          · subst hji; rw [hx] at hy; injection hy with hy; rw [← hy]; exact hp
          · exact hno j y (by omega) hy⟩
      clear hQ hno hc
      cases hp : p l[i] with
      | true =>
        have hfo := hfound hp
        rw [hp] at hcx
        clear hfound hgo
        repeat' (first | (simp (disch := omega) [go_sem, S150, *]) | (omega) | (with_reducible refine Br_dec (fun hp => ?_) (fun hp => ?_)) | (with_reducible refine Br_not ?_) | (with_reducible refine Br_bool (fun hp => ?_) (fun hp => ?_)) | (with_reducible refine bG_dec (fun hp => ?_) (fun hp => ?_)) | (with_reducible refine bG_bool' (fun hp => ?_) (fun hp => ?_)) | (refine bC_v hcx ?_) | ((with_reducible refine Go_regD _ _ ?hn ?_); case hn => rfl) | ((with_reducible refine Go_regN _ _ ?hn ?_); case hn => rfl) | (with_reducible refine dE_some ?_ ?_) | (with_reducible refine dN_some ?_ ?_) | (with_reducible refine dN_some' ?_ ?_) | ((with_reducible refine Rd_dG ?hn _ _ _ _ _ ?_); case hn => rfl) | (with_reducible refine dG_dec (fun hp => ?_) (fun hp => ?_)) | (with_reducible refine dG_bool' (fun hp => ?_) (fun hp => ?_)) | (with_reducible refine Rd_nil' ?_))
      | false =>
        rw [hp] at hcx
        clear hfound
        repeat' (first | (simp (disch := omega) [go_sem, S150, *]) | (omega) | (with_reducible refine Br_dec (fun hp => ?_) (fun hp => ?_)) | (with_reducible refine Br_not ?_) | (with_reducible refine Br_bool (fun hp => ?_) (fun hp => ?_)) | (with_reducible refine bG_dec (fun hp => ?_) (fun hp => ?_)) | (with_reducible refine bG_bool' (fun hp => ?_) (fun hp => ?_)) | (refine bC_v hcx ?_) | ((with_reducible refine Go_regD _ _ ?hn ?_); case hn => rfl) | ((with_reducible refine Go_regN _ _ ?hn ?_); case hn => rfl) | (with_reducible refine dE_some ?_ ?_) | (with_reducible refine dN_some ?_ ?_) | (with_reducible refine dN_some' ?_ ?_) | ((with_reducible refine Rd_dG ?hn _ _ _ _ _ ?_); case hn => rfl) | (with_reducible refine dG_dec (fun hp => ?_) (fun hp => ?_)) | (with_reducible refine dG_bool' (fun hp => ?_) (fun hp => ?_)) | (with_reducible refine Rd_nil' ?_))
        exact hgo _ hp (by simp [go_sem]) (by simp [go_sem, parts]) (by simp [go_sem]) (by simp [go_sem])
    · have hnone : idxF p l = -1 := idxF_none fun j y hy => by
        refine hno j y ?_ hy
        have := (List.getElem?_eq_some_iff.1 hy).1
        omega
      clear hQ hno
      repeat' (first | (simp (disch := omega) [go_sem, S150, *]) | (omega) | (with_reducible refine Br_dec (fun hp => ?_) (fun hp => ?_)) | (with_reducible refine Br_not ?_) | (with_reducible refine Br_bool (fun hp => ?_) (fun hp => ?_)) | (with_reducible refine bG_dec (fun hp => ?_) (fun hp => ?_)) | (with_reducible refine bG_bool' (fun hp => ?_) (fun hp => ?_)) | ((with_reducible refine Go_regD _ _ ?hn ?_); case hn => rfl) | ((with_reducible refine Go_regN _ _ ?hn ?_); case hn => rfl) | (with_reducible refine dE_some ?_ ?_) | (with_reducible refine dN_some ?_ ?_) | (with_reducible refine dN_some' ?_ ?_) | ((with_reducible refine Rd_dG ?hn _ _ _ _ _ ?_); case hn => rfl) | (with_reducible refine dG_dec (fun hp => ?_) (fun hp => ?_)) | (with_reducible refine dG_bool' (fun hp => ?_) (fun hp => ?_)) | (with_reducible refine Rd_nil' ?_))
theorem containsParts_ok (l : List Part) (p : Part → Bool) (f : FuncId) (h : H) (hl : l.length < 1099511627776) (hc : ∀ x ∈ l, Puv f [x.av] (.bool (p x))) :
    Spc 102 [parts l, .fn f [] []] h fun v h' => v = .bool (l.any p) ∧ h' = h := by
  refine sg ok102 rfl ?_
  have hi := indexParts_ok l p f h hl hc
  unfold parts at hi
  have := idxF_any p l
  repeat' (first | (simp (disch := omega) [go_sem, S102, parts, *]) | (omega) | (with_reducible refine Br_dec (fun hp => ?_) (fun hp => ?_)) | (with_reducible refine Br_not ?_) | (with_reducible refine Br_bool (fun hp => ?_) (fun hp => ?_)) | (with_reducible refine bG_dec (fun hp => ?_) (fun hp => ?_)) | (with_reducible refine bG_bool' (fun hp => ?_) (fun hp => ?_)) | (refine bC_spec hi fun v h2 hv => ?_; obtain ⟨rfl, rfl⟩ := hv) | ((with_reducible refine Go_regD _ _ ?hn ?_); case hn => rfl) | ((with_reducible refine Go_regN _ _ ?hn ?_); case hn => rfl) | (with_reducible refine dE_some ?_ ?_) | (with_reducible refine dN_some ?_ ?_) | (with_reducible refine dN_some' ?_ ?_) | ((with_reducible refine Rd_dG ?hn _ _ _ _ _ ?_); case hn => rfl) | (with_reducible refine dG_dec (fun hp => ?_) (fun hp => ?_)) | (with_reducible refine dG_bool' (fun hp => ?_) (fun hp => ?_)) | (with_reducible refine Rd_nil' ?_))
/-! ### keys -/
def digitsL : List Nat := [48,49,50,51,52,53,54,55,56,57]
def digitAt (k : List Nat) : Bool := decide (0 ≤ Lib.indexByte (toL digitsL) ((k.headD 0 : Nat) : Int).toNat.toUInt8)
def toldE (k : List Nat) (first : Bool) : Int := if k = [] ∨ trimmed k ≠ [] ∨ (first = true ∧ digitAt k = true) then dblE k else 0
theorem toldE_cases (k : List Nat) (b : Bool) : toldE k b = 0 ∨ toldE k b = 8 := by
  unfold toldE; split
  · exact dblE_cases k
  · simp
theorem told_ok (k : List Nat) (b : Bool) (hl : k.length ≤ 256) : Pur 152 [.str k, .bool b] fun v => ∃ t : List Nat, v = .tup [.str t, .int .i64 (toldE k b)] ∧ t.length ≤ 18 * 256 + 2 := by
  refine pq ok152 rfl rfl fun h => ?_
  have hd := Double_ok k (by omega)
  have ht := trimL_ok k (by omega)
  unfold lettersL at ht
  cases k with
  | nil =>
    have e : toldE [] b = dblE [] := by simp [toldE]
    repeat' (first | (simp (disch := omega) [go_sem, S152, *]) | (omega) | (with_reducible refine Br_dec (fun hp => ?_) (fun hp => ?_)) | (with_reducible refine Br_not ?_) | (with_reducible refine Br_bool (fun hp => ?_) (fun hp => ?_)) | (with_reducible refine bG_dec (fun hp => ?_) (fun hp => ?_)) | (with_reducible refine bG_bool' (fun hp => ?_) (fun hp => ?_)) | (refine bC_v ht ?_) | (refine bC_pure hd fun v hv => ?_; obtain ⟨t, rfl, hv⟩ := hv) | ((with_reducible refine Go_regD _ _ ?hn ?_); case hn => rfl) | ((with_reducible refine Go_regN _ _ ?hn ?_); case hn => rfl) | (with_reducible refine dE_some ?_ ?_) | (with_reducible refine dN_some ?_ ?_) | (with_reducible refine dN_some' ?_ ?_) | ((with_reducible refine Rd_dG ?hn _ _ _ _ _ ?_); case hn => rfl) | (with_reducible refine dG_dec (fun hp => ?_) (fun hp => ?_)) | (with_reducible refine dG_bool' (fun hp => ?_) (fun hp => ?_)) | (with_reducible refine Rd_nil' ?_))
    exact ⟨_, Le.refl _, _, rfl, by simp at hv; omega⟩
  | cons c k =>
    have hi := indexByte_ok digitsL c
    have hda : digitAt (c :: k) = decide (0 ≤ Lib.indexByte (toL digitsL) (c : Int).toNat.toUInt8) := rfl
    generalize Lib.indexByte (toL digitsL) (c : Int).toNat.toUInt8 = z at hi hda
    unfold digitsL at hi
    have hk1 : (c :: k).length = k.length + 1 := rfl
    by_cases c2 : trimmed (c :: k) = []
    · cases b with
      | false =>
        have e : toldE (c :: k) false = 0 := by simp [toldE, c2]
        repeat' (first | (simp (disch := omega) [go_sem, S152, *]) | (omega) | (with_reducible refine Br_dec (fun hp => ?_) (fun hp => ?_)) | (with_reducible refine Br_not ?_) | (with_reducible refine Br_bool (fun hp => ?_) (fun hp => ?_)) | (with_reducible refine bG_dec (fun hp => ?_) (fun hp => ?_)) | (with_reducible refine bG_bool' (fun hp => ?_) (fun hp => ?_)) | (refine bC_v ht ?_) | (refine bC_pure hd fun v hv => ?_; obtain ⟨t, rfl, hv⟩ := hv) | ((with_reducible refine Go_regD _ _ ?hn ?_); case hn => rfl) | ((with_reducible refine Go_regN _ _ ?hn ?_); case hn => rfl) | (with_reducible refine dE_some ?_ ?_) | (with_reducible refine dN_some ?_ ?_) | (with_reducible refine dN_some' ?_ ?_) | ((with_reducible refine Rd_dG ?hn _ _ _ _ _ ?_); case hn => rfl) | (with_reducible refine dG_dec (fun hp => ?_) (fun hp => ?_)) | (with_reducible refine dG_bool' (fun hp => ?_) (fun hp => ?_)) | (with_reducible refine Rd_nil' ?_))
        exact ⟨_, Le.refl _, _, rfl, by simp; omega⟩
      | true =>
        cases c3 : digitAt (c :: k) with
        | true =>
          have e : toldE (c :: k) true = dblE (c :: k) := by simp [toldE, c3]
          rw [hda, decide_eq_true_eq] at c3
          repeat' (first | (simp (disch := omega) [go_sem, S152, *]) | (omega) | (with_reducible refine Br_dec (fun hp => ?_) (fun hp => ?_)) | (with_reducible refine Br_not ?_) | (with_reducible refine Br_bool (fun hp => ?_) (fun hp => ?_)) | (with_reducible refine bG_dec (fun hp => ?_) (fun hp => ?_)) | (with_reducible refine bG_bool' (fun hp => ?_) (fun hp => ?_)) | (refine bC_v ht ?_) | (refine bC_v hi ?_) | (refine bC_pure hd fun v hv => ?_; obtain ⟨t, rfl, hv⟩ := hv) | ((with_reducible refine Go_regD _ _ ?hn ?_); case hn => rfl) | ((with_reducible refine Go_regN _ _ ?hn ?_); case hn => rfl) | (with_reducible refine dE_some ?_ ?_) | (with_reducible refine dN_some ?_ ?_) | (with_reducible refine dN_some' ?_ ?_) | ((with_reducible refine Rd_dG ?hn _ _ _ _ _ ?_); case hn => rfl) | (with_reducible refine dG_dec (fun hp => ?_) (fun hp => ?_)) | (with_reducible refine dG_bool' (fun hp => ?_) (fun hp => ?_)) | (with_reducible refine Rd_nil' ?_))
          exact ⟨_, Le.refl _, _, rfl, by simp at hv; omega⟩
        | false =>
          have e : toldE (c :: k) true = 0 := by simp [toldE, c2, c3]
          rw [hda, decide_eq_false_iff_not] at c3
          repeat' (first | (simp (disch := omega) [go_sem, S152, *]) | (omega) | (with_reducible refine Br_dec (fun hp => ?_) (fun hp => ?_)) | (with_reducible refine Br_not ?_) | (with_reducible refine Br_bool (fun hp => ?_) (fun hp => ?_)) | (with_reducible refine bG_dec (fun hp => ?_) (fun hp => ?_)) | (with_reducible refine bG_bool' (fun hp => ?_) (fun hp => ?_)) | (refine bC_v ht ?_) | (refine bC_v hi ?_) | (refine bC_pure hd fun v hv => ?_; obtain ⟨t, rfl, hv⟩ := hv) | ((with_reducible refine Go_regD _ _ ?hn ?_); case hn => rfl) | ((with_reducible refine Go_regN _ _ ?hn ?_); case hn => rfl) | (with_reducible refine dE_some ?_ ?_) | (with_reducible refine dN_some ?_ ?_) | (with_reducible refine dN_some' ?_ ?_) | ((with_reducible refine Rd_dG ?hn _ _ _ _ _ ?_); case hn => rfl) | (with_reducible refine dG_dec (fun hp => ?_) (fun hp => ?_)) | (with_reducible refine dG_bool' (fun hp => ?_) (fun hp => ?_)) | (with_reducible refine Rd_nil' ?_))
          exact ⟨_, Le.refl _, _, rfl, by simp; omega⟩
    · have e : toldE (c :: k) b = dblE (c :: k) := by simp [toldE, c2]
      repeat' (first | (simp (disch := omega) [go_sem, S152, *]) | (omega) | (with_reducible refine Br_dec (fun hp => ?_) (fun hp => ?_)) | (with_reducible refine Br_not ?_) | (with_reducible refine Br_bool (fun hp => ?_) (fun hp => ?_)) | (with_reducible refine bG_dec (fun hp => ?_) (fun hp => ?_)) | (with_reducible refine bG_bool' (fun hp => ?_) (fun hp => ?_)) | (refine bC_v ht ?_) | (refine bC_pure hd fun v hv => ?_; obtain ⟨t, rfl, hv⟩ := hv) | ((with_reducible refine Go_regD _ _ ?hn ?_); case hn => rfl) | ((with_reducible refine Go_regN _ _ ?hn ?_); case hn => rfl) | (with_reducible refine dE_some ?_ ?_) | (with_reducible refine dN_some ?_ ?_) | (with_reducible refine dN_some' ?_ ?_) | ((with_reducible refine Rd_dG ?hn _ _ _ _ _ ?_); case hn => rfl) | (with_reducible refine dG_dec (fun hp => ?_) (fun hp => ?_)) | (with_reducible refine dG_bool' (fun hp => ?_) (fun hp => ?_)) | (with_reducible refine Rd_nil' ?_))
      exact ⟨_, Le.refl _, _, rfl, by simp at hv; omega⟩
end Go.Eng.Tryz
set_option maxRecDepth 20000
set_option maxHeartbeats 1000000
namespace Go.Eng.Tryz
open Go.Eng Go.Proofs Go.RowKit
def partE (x : Part) : Int := if x.kind = 1 then toldE x.text false else if 2 ≤ x.kind ∧ x.kind ≤ 5 then 0 else if toldE x.text true ≠ 0 then toldE x.text true else toldE x.value false
theorem partE_cases (x : Part) : partE x = 0 ∨ partE x = 8 := by
  unfold partE
  split
  · exact toldE_cases _ _
  · split
    · simp
    · split
      · exact toldE_cases _ _
      · exact toldE_cases _ _
theorem ptext_ok (x : Part) (h1 : x.text.length ≤ 256) (h2 : x.value.length ≤ 256) (h3 : 0 ≤ x.n) (h4 : x.n ≤ 999999) : Pur 106 [x.av] fun v => ∃ t : List Nat, v = .tup [.str t, .int .i64 (partE x)] ∧ t.length ≤ 10000 := by
  refine pq ok106 (by simp [AV.clL, cl_part]) rfl fun h => ?_
  have hit := itoa_ok x.n (by omega) (by omega)
  have hil := itoa_short x.n h3 h4
  have ha := told_ok x.text false h1
  have hb := told_ok x.text true h1
  have hv' := told_ok x.value false h2
  generalize itoa x.n = it at *
  have hx1 : [91].length + it.length ≤ 9223372036854775807 := by simp; omega
  have hx2 : (91 :: it).length + [93].length ≤ 9223372036854775807 := by simp; omega
  by_cases c2 : x.kind = 2
  · have e : partE x = 0 := by simp [partE, c2]
    repeat' (first | (simp (disch := omega) [go_sem, S106, Part.av, Part.cells, *]) | (omega) | (with_reducible refine Br_dec (fun hp => ?_) (fun hp => ?_)) | (with_reducible refine Br_not ?_) | (with_reducible refine Br_bool (fun hp => ?_) (fun hp => ?_)) | (with_reducible refine bG_dec (fun hp => ?_) (fun hp => ?_)) | (with_reducible refine bG_bool' (fun hp => ?_) (fun hp => ?_)) | ((with_reducible refine Go_regD _ _ ?hn ?_); case hn => rfl) | ((with_reducible refine Go_regN _ _ ?hn ?_); case hn => rfl) | (with_reducible refine dE_some ?_ ?_) | (with_reducible refine dN_some ?_ ?_) | (with_reducible refine dN_some' ?_ ?_) | ((with_reducible refine Rd_dG ?hn _ _ _ _ _ ?_); case hn => rfl) | (with_reducible refine dG_dec (fun hp => ?_) (fun hp => ?_)) | (with_reducible refine dG_bool' (fun hp => ?_) (fun hp => ?_)) | (with_reducible refine Rd_nil' ?_))
    exact ⟨_, Le.refl _, _, rfl, by simp⟩
  by_cases c3 : x.kind = 3
  · have e : partE x = 0 := by simp [partE, c3]
    repeat' (first | (simp (disch := omega) [go_sem, S106, Part.av, Part.cells, *]) | (omega) | (with_reducible refine Br_dec (fun hp => ?_) (fun hp => ?_)) | (with_reducible refine Br_not ?_) | (with_reducible refine Br_bool (fun hp => ?_) (fun hp => ?_)) | (with_reducible refine bG_dec (fun hp => ?_) (fun hp => ?_)) | (with_reducible refine bG_bool' (fun hp => ?_) (fun hp => ?_)) | ((with_reducible refine Go_regD _ _ ?hn ?_); case hn => rfl) | ((with_reducible refine Go_regN _ _ ?hn ?_); case hn => rfl) | (with_reducible refine dE_some ?_ ?_) | (with_reducible refine dN_some ?_ ?_) | (with_reducible refine dN_some' ?_ ?_) | ((with_reducible refine Rd_dG ?hn _ _ _ _ _ ?_); case hn => rfl) | (with_reducible refine dG_dec (fun hp => ?_) (fun hp => ?_)) | (with_reducible refine dG_bool' (fun hp => ?_) (fun hp => ?_)) | (with_reducible refine Rd_nil' ?_))
    exact ⟨_, Le.refl _, _, rfl, by simp⟩
  by_cases c5 : x.kind = 5
  · have e : partE x = 0 := by simp [partE, c5]
    repeat' (first | (simp (disch := omega) [go_sem, S106, Part.av, Part.cells, *]) | (omega) | (with_reducible refine Br_dec (fun hp => ?_) (fun hp => ?_)) | (with_reducible refine Br_not ?_) | (with_reducible refine Br_bool (fun hp => ?_) (fun hp => ?_)) | (with_reducible refine bG_dec (fun hp => ?_) (fun hp => ?_)) | (with_reducible refine bG_bool' (fun hp => ?_) (fun hp => ?_)) | ((with_reducible refine Go_regD _ _ ?hn ?_); case hn => rfl) | ((with_reducible refine Go_regN _ _ ?hn ?_); case hn => rfl) | (with_reducible refine dE_some ?_ ?_) | (with_reducible refine dN_some ?_ ?_) | (with_reducible refine dN_some' ?_ ?_) | ((with_reducible refine Rd_dG ?hn _ _ _ _ _ ?_); case hn => rfl) | (with_reducible refine dG_dec (fun hp => ?_) (fun hp => ?_)) | (with_reducible refine dG_bool' (fun hp => ?_) (fun hp => ?_)) | (with_reducible refine Rd_nil' ?_))
    exact ⟨_, Le.refl _, _, rfl, by simp⟩
  by_cases c4 : x.kind = 4
  · have e : partE x = 0 := by simp [partE, c4]
    repeat' (first | (simp (disch := omega) [go_sem, S106, Part.av, Part.cells, *]) | (omega) | (with_reducible refine Br_dec (fun hp => ?_) (fun hp => ?_)) | (with_reducible refine Br_not ?_) | (with_reducible refine Br_bool (fun hp => ?_) (fun hp => ?_)) | (with_reducible refine bG_dec (fun hp => ?_) (fun hp => ?_)) | (with_reducible refine bG_bool' (fun hp => ?_) (fun hp => ?_)) | (refine bC_v hit ?_) | ((with_reducible refine Go_regD _ _ ?hn ?_); case hn => rfl) | ((with_reducible refine Go_regN _ _ ?hn ?_); case hn => rfl) | (with_reducible refine dE_some ?_ ?_) | (with_reducible refine dN_some ?_ ?_) | (with_reducible refine dN_some' ?_ ?_) | ((with_reducible refine Rd_dG ?hn _ _ _ _ _ ?_); case hn => rfl) | (with_reducible refine dG_dec (fun hp => ?_) (fun hp => ?_)) | (with_reducible refine dG_bool' (fun hp => ?_) (fun hp => ?_)) | (with_reducible refine Rd_nil' ?_))
    exact ⟨_, Le.refl _, _, rfl, by simp; omega⟩
  by_cases c1 : x.kind = 1
  · have e : partE x = toldE x.text false := by simp [partE, c1]
    repeat' (first | (simp (disch := omega) [go_sem, S106, Part.av, Part.cells, *]) | (omega) | (with_reducible refine Br_dec (fun hp => ?_) (fun hp => ?_)) | (with_reducible refine Br_not ?_) | (with_reducible refine Br_bool (fun hp => ?_) (fun hp => ?_)) | (with_reducible refine bG_dec (fun hp => ?_) (fun hp => ?_)) | (with_reducible refine bG_bool' (fun hp => ?_) (fun hp => ?_)) | (refine bC_pure ha fun v hv => ?_; obtain ⟨t, rfl, hv⟩ := hv) | ((with_reducible refine Go_regD _ _ ?hn ?_); case hn => rfl) | ((with_reducible refine Go_regN _ _ ?hn ?_); case hn => rfl) | (with_reducible refine dE_some ?_ ?_) | (with_reducible refine dN_some ?_ ?_) | (with_reducible refine dN_some' ?_ ?_) | ((with_reducible refine Rd_dG ?hn _ _ _ _ _ ?_); case hn => rfl) | (with_reducible refine dG_dec (fun hp => ?_) (fun hp => ?_)) | (with_reducible refine dG_bool' (fun hp => ?_) (fun hp => ?_)) | (with_reducible refine Rd_nil' ?_))
    exact ⟨_, Le.refl _, _, rfl, by omega⟩
  have c0 : ¬ (2 ≤ x.kind ∧ x.kind ≤ 5) := by omega
  rcases toldE_cases x.text true with c6 | c6
  · have e : partE x = toldE x.value false := by simp only [partE, c1, c0, c6, if_false, ne_eq, not_true]
    rw [c6] at hb
    clear c0
    repeat' (first | (simp (disch := omega) [go_sem, S106, Part.av, Part.cells, *]) | (omega) | (with_reducible refine Br_dec (fun hp => ?_) (fun hp => ?_)) | (with_reducible refine Br_not ?_) | (with_reducible refine Br_bool (fun hp => ?_) (fun hp => ?_)) | (with_reducible refine bG_dec (fun hp => ?_) (fun hp => ?_)) | (with_reducible refine bG_bool' (fun hp => ?_) (fun hp => ?_)) | (refine bC_pure hb fun v hv => ?_; obtain ⟨t1, rfl, ht1⟩ := hv) | (refine bC_pure hv' fun v hv => ?_; obtain ⟨t2, rfl, ht2⟩ := hv; have hy1 : [91].length + t1.length ≤ 9223372036854775807 := (by simp; omega); have hy2 : (91 :: t1).length + [61].length ≤ 9223372036854775807 := (by simp; omega); have hy3 : (91 :: (t1 ++ [61])).length + t2.length ≤ 9223372036854775807 := (by simp; omega); have hy4 : (91 :: (t1 ++ 61 :: t2)).length + [93].length ≤ 9223372036854775807 := (by simp; omega)) | ((with_reducible refine Go_regD _ _ ?hn ?_); case hn => rfl) | ((with_reducible refine Go_regN _ _ ?hn ?_); case hn => rfl) | (with_reducible refine dE_some ?_ ?_) | (with_reducible refine dN_some ?_ ?_) | (with_reducible refine dN_some' ?_ ?_) | ((with_reducible refine Rd_dG ?hn _ _ _ _ _ ?_); case hn => rfl) | (with_reducible refine dG_dec (fun hp => ?_) (fun hp => ?_)) | (with_reducible refine dG_bool' (fun hp => ?_) (fun hp => ?_)) | (with_reducible refine Rd_nil' ?_))
    exact ⟨_, Le.refl _, _, rfl, by simp; omega⟩
  · have e : partE x = 8 := by simp only [partE, c1, c0, c6, if_false, ne_eq]; rfl
    rw [c6] at hb
    clear c0
    repeat' (first | (simp (disch := omega) [go_sem, S106, Part.av, Part.cells, *]) | (omega) | (with_reducible refine Br_dec (fun hp => ?_) (fun hp => ?_)) | (with_reducible refine Br_not ?_) | (with_reducible refine Br_bool (fun hp => ?_) (fun hp => ?_)) | (with_reducible refine bG_dec (fun hp => ?_) (fun hp => ?_)) | (with_reducible refine bG_bool' (fun hp => ?_) (fun hp => ?_)) | (refine bC_pure hb fun v hv => ?_; obtain ⟨t1, rfl, ht1⟩ := hv) | ((with_reducible refine Go_regD _ _ ?hn ?_); case hn => rfl) | ((with_reducible refine Go_regN _ _ ?hn ?_); case hn => rfl) | (with_reducible refine dE_some ?_ ?_) | (with_reducible refine dN_some ?_ ?_) | (with_reducible refine dN_some' ?_ ?_) | ((with_reducible refine Rd_dG ?hn _ _ _ _ _ ?_); case hn => rfl) | (with_reducible refine dG_dec (fun hp => ?_) (fun hp => ?_)) | (with_reducible refine dG_bool' (fun hp => ?_) (fun hp => ?_)) | (with_reducible refine Rd_nil' ?_))
    exact ⟨_, Le.refl _, _, rfl, by simp⟩
def fmtE (l : List Part) : Int := if l.any (fun x => !isPartR x) then 1 else if 32 < l.length ∨ l.any isLongR then 5 else if l.any (fun x => decide (partE x ≠ 0)) then 8 else 0
theorem FormatQ_ok (l : List Part) (hl : l.length < 1099511627776) : Pur 49 [parts l] fun v => ∃ t : List Nat, v = .tup [.str t, .int .i64 (fmtE l)] := by
  refine pq ok49 (by simp [AV.clL, cl_parts]) rfl fun h => ?_
  have hi1 := fun h => containsParts_ok l (fun x => !isPartR x) 103 h hl fun x _ => noPart_ok x
  have hi2 := fun h => containsParts_ok l isLongR 105 h hl fun x _ => isLong_ok x
  unfold parts at hi1 hi2
  generalize he : fmtE l = r
  unfold fmtE at he
  cases c1 : l.any (fun x => !isPartR x) with
  | true =>
    rw [c1] at hi1
    have e : r = 1 := by rw [← he, c1]; rfl
    repeat' (first | (simp (disch := omega) [go_sem, S49, parts, *]) | (omega) | (with_reducible refine Br_dec (fun hp => ?_) (fun hp => ?_)) | (with_reducible refine Br_not ?_) | (with_reducible refine Br_bool (fun hp => ?_) (fun hp => ?_)) | (with_reducible refine bG_dec (fun hp => ?_) (fun hp => ?_)) | (with_reducible refine bG_bool' (fun hp => ?_) (fun hp => ?_)) | (refine bC_spec (hi1 _) fun v h2 hv => ?_; obtain ⟨rfl, hh⟩ := hv; subst h2) | ((with_reducible refine Go_regD _ _ ?hn ?_); case hn => rfl) | ((with_reducible refine Go_regN _ _ ?hn ?_); case hn => rfl) | (with_reducible refine dE_some ?_ ?_) | (with_reducible refine dN_some ?_ ?_) | (with_reducible refine dN_some' ?_ ?_) | ((with_reducible refine Rd_dG ?hn _ _ _ _ _ ?_); case hn => rfl) | (with_reducible refine dG_dec (fun hp => ?_) (fun hp => ?_)) | (with_reducible refine dG_bool' (fun hp => ?_) (fun hp => ?_)) | (with_reducible refine Rd_nil' ?_))
    exact ⟨_, Le.refl _, _, rfl⟩
  | false =>
    rw [c1] at hi1
    by_cases c2 : 32 < l.length
    · have e : r = 5 := by rw [← he, c1]; simp [c2]
      repeat' (first | (simp (disch := omega) [go_sem, S49, parts, *]) | (omega) | (with_reducible refine Br_dec (fun hp => ?_) (fun hp => ?_)) | (with_reducible refine Br_not ?_) | (with_reducible refine Br_bool (fun hp => ?_) (fun hp => ?_)) | (with_reducible refine bG_dec (fun hp => ?_) (fun hp => ?_)) | (with_reducible refine bG_bool' (fun hp => ?_) (fun hp => ?_)) | (refine bC_spec (hi1 _) fun v h2 hv => ?_; obtain ⟨rfl, hh⟩ := hv; subst h2) | ((with_reducible refine Go_regD _ _ ?hn ?_); case hn => rfl) | ((with_reducible refine Go_regN _ _ ?hn ?_); case hn => rfl) | (with_reducible refine dE_some ?_ ?_) | (with_reducible refine dN_some ?_ ?_) | (with_reducible refine dN_some' ?_ ?_) | ((with_reducible refine Rd_dG ?hn _ _ _ _ _ ?_); case hn => rfl) | (with_reducible refine dG_dec (fun hp => ?_) (fun hp => ?_)) | (with_reducible refine dG_bool' (fun hp => ?_) (fun hp => ?_)) | (with_reducible refine Rd_nil' ?_))
      exact ⟨_, Le.refl _, _, rfl⟩
    cases c3 : l.any isLongR with
    | true =>
      rw [c3] at hi2
      have e : r = 5 := by rw [← he, c1, c3]; simp
      repeat' (first | (simp (disch := omega) [go_sem, S49, parts, *]) | (omega) | (with_reducible refine Br_dec (fun hp => ?_) (fun hp => ?_)) | (with_reducible refine Br_not ?_) | (with_reducible refine Br_bool (fun hp => ?_) (fun hp => ?_)) | (with_reducible refine bG_dec (fun hp => ?_) (fun hp => ?_)) | (with_reducible refine bG_bool' (fun hp => ?_) (fun hp => ?_)) | (refine bC_spec (hi1 _) fun v h2 hv => ?_; obtain ⟨rfl, hh⟩ := hv; subst h2) | (refine bC_spec (hi2 _) fun v h2 hv => ?_; obtain ⟨rfl, hh⟩ := hv; subst h2) | ((with_reducible refine Go_regD _ _ ?hn ?_); case hn => rfl) | ((with_reducible refine Go_regN _ _ ?hn ?_); case hn => rfl) | (with_reducible refine dE_some ?_ ?_) | (with_reducible refine dN_some ?_ ?_) | (with_reducible refine dN_some' ?_ ?_) | ((with_reducible refine Rd_dG ?hn _ _ _ _ _ ?_); case hn => rfl) | (with_reducible refine dG_dec (fun hp => ?_) (fun hp => ?_)) | (with_reducible refine dG_bool' (fun hp => ?_) (fun hp => ?_)) | (with_reducible refine Rd_nil' ?_))
      exact ⟨_, Le.refl _, _, rfl⟩
    | false =>
      rw [c3] at hi2
      have eW : (if l.any (fun x => decide (partE x ≠ 0)) then (8 : Int) else 0) = r := by rw [← he, c1, c3]; simp [c2]
      have hno : ∀ x ∈ l, isLongR x = false := fun x hx => by
        apply Bool.eq_false_iff.2; intro hc
        have := List.any_eq_true.2 ⟨x, hx, hc⟩
        rw [c3] at this; cases this
      clear he
      have ht : (190, 190) ∈ U0 := by simp [U0]
      have hl32 : l.length ≤ 32 := by omega
      repeat' (first | (simp (disch := omega) [go_sem, S49, parts, *]) | (omega) | (with_reducible refine Br_dec (fun hp => ?_) (fun hp => ?_)) | (with_reducible refine Br_not ?_) | (with_reducible refine Br_bool (fun hp => ?_) (fun hp => ?_)) | (with_reducible refine bG_dec (fun hp => ?_) (fun hp => ?_)) | (with_reducible refine bG_bool' (fun hp => ?_) (fun hp => ?_)) | (refine bC_spec (hi1 _) fun v h2 hv => ?_; obtain ⟨rfl, hh⟩ := hv; subst h2) | (refine bC_spec (hi2 _) fun v h2 hv => ?_; obtain ⟨rfl, hh⟩ := hv; subst h2) | ((with_reducible refine Go_regD _ _ ?hn ?_); case hn => rfl) | ((with_reducible refine Go_regN _ _ ?hn ?_); case hn => rfl) | (with_reducible refine dE_some ?_ ?_) | (with_reducible refine dN_some ?_ ?_) | (with_reducible refine dN_some' ?_ ?_) | ((with_reducible refine Rd_dG ?hn _ _ _ _ _ ?_); case hn => rfl) | (with_reducible refine dG_dec (fun hp => ?_) (fun hp => ?_)) | (with_reducible refine dG_bool' (fun hp => ?_) (fun hp => ?_)) | (with_reducible refine Rd_nil' ?_))
      refine Go_loop (fun m e h2 => ∃ (j : Nat) (bs : List Int), m = l.length - j ∧ j ≤ l.length ∧ bs.length ≤ 20000 * j ∧ (∀ x ∈ l.take j, partE x = 0) ∧ e.get 20 = .int .i64 j ∧ e.get 19 = .int .i64 l.length ∧ e.get 18 = parts l ∧ e.get 4 = .ptr h.next 0 ∧ IsB h2 h.next 190 bs) (n := l.length) ?_ ?_
      · refine ⟨0, [], ?_⟩
        simp (disch := omega) [go_sem, parts]
        exact IsB.nil (by simp (disch := omega) [go_sem]) (by simp [go_sem])
      · rintro m e h2 ⟨j, bs, rfl, hj, hbl, hnb, q20, q19, q18, q4, hb⟩ Q hQ
        unfold parts at q18
        by_cases hlt : j < l.length
        · have hx : l[j]? = some l[j] := List.getElem?_eq_getElem hlt
          have hmem : l[j] ∈ l := List.getElem_mem hlt
          have hlg := hno _ hmem
          simp only [isLongR, Bool.or_eq_false_iff, decide_eq_false_iff_not] at hlg
          have hQ' : partE l[j] = 0 → ∀ e' h' ns, e'.get 20 = .int .i64 ((j : Int) + 1) → e'.get 19 = .int .i64 l.length → e'.get 18 = parts l → e'.get 4 = .ptr h.next 0 → ns.length ≤ 20000 → IsB h' h.next 190 (bs ++ ns) → Q e' h' :=
            fun hs e' h' ns r1 r2 r3 r4 r5 r6 => hQ (l.length - (j + 1)) e' h' (by omega) ⟨j + 1, bs ++ ns, rfl, by omega, by simp; omega, by
              rw [take_snoc l j hlt]
              intro x hx
              rcases List.mem_append.1 hx with h1 | h1
              · exact hnb x h1
              · rw [List.mem_singleton.1 h1]; exact hs, r1, r2, r3, r4, r6⟩
          have hbad : partE l[j] = 8 → r = 8 := fun hs => by
            have : l.any (fun x => decide (partE x ≠ 0)) = true := List.any_eq_true.2 ⟨_, hmem, by simp [hs]⟩
            rw [← eW, this]; rfl
          have htx := ptext_ok l[j] (by omega) (by omega) (by omega) (by omega)
          clear hQ hno hnb eW
          unfold parts at hQ'
          unfold Part.av Part.cells at htx
          rcases partE_cases l[j] with c4 | c4
          · rw [c4] at htx
            have hQ2 := hQ' c4
            clear hQ' hbad
            by_cases c5 : ¬ (0 : Int) < j
            · repeat' (first | (simp (disch := omega) [go_sem, S49, parts, Part.av, Part.cells, *]) | (omega) | (with_reducible refine Br_dec (fun hp => ?_) (fun hp => ?_)) | (with_reducible refine Br_not ?_) | (with_reducible refine Br_bool (fun hp => ?_) (fun hp => ?_)) | (with_reducible refine bG_dec (fun hp => ?_) (fun hp => ?_)) | (with_reducible refine bG_bool' (fun hp => ?_) (fun hp => ?_)) | (refine bC_pure htx fun v hv => ?_; obtain ⟨tx, rfl, htl⟩ := hv) | (refine bC_spec (WriteString_ok _ h.next 190 bs tx ht (hb.same (by simp [go_sem] <;> omega) fun j hj => by simp (disch := omega) [go_sem]) (by omega)) fun v h3 hv => ?_; obtain ⟨a1, a2, a3⟩ := hv) | ((with_reducible refine Go_regD _ _ ?hn ?_); case hn => rfl) | ((with_reducible refine Go_regN _ _ ?hn ?_); case hn => rfl) | (with_reducible refine dE_some ?_ ?_) | (with_reducible refine dN_some ?_ ?_) | (with_reducible refine dN_some' ?_ ?_) | ((with_reducible refine Rd_dG ?hn _ _ _ _ _ ?_); case hn => rfl) | (with_reducible refine dG_dec (fun hp => ?_) (fun hp => ?_)) | (with_reducible refine dG_bool' (fun hp => ?_) (fun hp => ?_)) | (with_reducible refine Rd_nil' ?_))
              refine hQ2 _ _ (tx.map Int.ofNat) ?_ ?_ ?_ ?_ (by simp; omega) a2 <;> simp (disch := omega) [go_sem, *]
            by_cases c6 : l[j].kind ≤ 3
            · repeat' (first | (simp (disch := omega) [go_sem, S49, parts, Part.av, Part.cells, *]) | (omega) | (with_reducible refine Br_dec (fun hp => ?_) (fun hp => ?_)) | (with_reducible refine Br_not ?_) | (with_reducible refine Br_bool (fun hp => ?_) (fun hp => ?_)) | (with_reducible refine bG_dec (fun hp => ?_) (fun hp => ?_)) | (with_reducible refine bG_bool' (fun hp => ?_) (fun hp => ?_)) | (refine bC_pure htx fun v hv => ?_; obtain ⟨tx, rfl, htl⟩ := hv) | (refine bC_spec (WriteByte_ok _ h.next 190 bs 46 ht (hb.same (by simp [go_sem] <;> omega) fun j hj => by simp (disch := omega) [go_sem]) (by omega)) fun v h3 hv => ?_; obtain ⟨rfl, b1, b2, b3⟩ := hv) | (refine bC_spec (WriteString_ok _ h.next 190 _ tx ht b2 (by simp <;> omega)) fun v h4 hv => ?_; obtain ⟨a1, a2, a3⟩ := hv) | ((with_reducible refine Go_regD _ _ ?hn ?_); case hn => rfl) | ((with_reducible refine Go_regN _ _ ?hn ?_); case hn => rfl) | (with_reducible refine dE_some ?_ ?_) | (with_reducible refine dN_some ?_ ?_) | (with_reducible refine dN_some' ?_ ?_) | ((with_reducible refine Rd_dG ?hn _ _ _ _ _ ?_); case hn => rfl) | (with_reducible refine dG_dec (fun hp => ?_) (fun hp => ?_)) | (with_reducible refine dG_bool' (fun hp => ?_) (fun hp => ?_)) | (with_reducible refine Rd_nil' ?_))
              refine hQ2 _ _ ([46] ++ tx.map Int.ofNat) ?_ ?_ ?_ ?_ (by simp; omega) (by simpa using a2) <;> simp (disch := omega) [go_sem, *]
            · repeat' (first | (simp (disch := omega) [go_sem, S49, parts, Part.av, Part.cells, *]) | (omega) | (with_reducible refine Br_dec (fun hp => ?_) (fun hp => ?_)) | (with_reducible refine Br_not ?_) | (with_reducible refine Br_bool (fun hp => ?_) (fun hp => ?_)) | (with_reducible refine bG_dec (fun hp => ?_) (fun hp => ?_)) | (with_reducible refine bG_bool' (fun hp => ?_) (fun hp => ?_)) | (refine bC_pure htx fun v hv => ?_; obtain ⟨tx, rfl, htl⟩ := hv) | (refine bC_spec (WriteString_ok _ h.next 190 bs tx ht (hb.same (by simp [go_sem] <;> omega) fun j hj => by simp (disch := omega) [go_sem]) (by omega)) fun v h3 hv => ?_; obtain ⟨a1, a2, a3⟩ := hv) | ((with_reducible refine Go_regD _ _ ?hn ?_); case hn => rfl) | ((with_reducible refine Go_regN _ _ ?hn ?_); case hn => rfl) | (with_reducible refine dE_some ?_ ?_) | (with_reducible refine dN_some ?_ ?_) | (with_reducible refine dN_some' ?_ ?_) | ((with_reducible refine Rd_dG ?hn _ _ _ _ _ ?_); case hn => rfl) | (with_reducible refine dG_dec (fun hp => ?_) (fun hp => ?_)) | (with_reducible refine dG_bool' (fun hp => ?_) (fun hp => ?_)) | (with_reducible refine Rd_nil' ?_))
              refine hQ2 _ _ (tx.map Int.ofNat) ?_ ?_ ?_ ?_ (by simp; omega) a2 <;> simp (disch := omega) [go_sem, *]
          · rw [c4] at htx
            have e8 := hbad c4
            clear hQ' hbad
            repeat' (first | (simp (disch := omega) [go_sem, S49, parts, Part.av, Part.cells, *]) | (omega) | (with_reducible refine Br_dec (fun hp => ?_) (fun hp => ?_)) | (with_reducible refine Br_not ?_) | (with_reducible refine Br_bool (fun hp => ?_) (fun hp => ?_)) | (with_reducible refine bG_dec (fun hp => ?_) (fun hp => ?_)) | (with_reducible refine bG_bool' (fun hp => ?_) (fun hp => ?_)) | (refine bC_pure htx fun v hv => ?_; obtain ⟨tx, rfl, htl⟩ := hv) | ((with_reducible refine Go_regD _ _ ?hn ?_); case hn => rfl) | ((with_reducible refine Go_regN _ _ ?hn ?_); case hn => rfl) | (with_reducible refine dE_some ?_ ?_) | (with_reducible refine dN_some ?_ ?_) | (with_reducible refine dN_some' ?_ ?_) | ((with_reducible refine Rd_dG ?hn _ _ _ _ _ ?_); case hn => rfl) | (with_reducible refine dG_dec (fun hp => ?_) (fun hp => ?_)) | (with_reducible refine dG_bool' (fun hp => ?_) (fun hp => ?_)) | (with_reducible refine Rd_nil' ?_))
            exact ⟨_, Le.refl _, _, rfl⟩
        · have e0 : r = 0 := by
            rw [List.take_of_length_le (by omega)] at hnb
            rw [← eW, if_neg]
            intro hc
            obtain ⟨x, h1, h2⟩ := List.any_eq_true.1 hc
            rw [decide_eq_true_eq] at h2
            exact h2 (hnb x h1)
          have hst := String_ok h2 h.next 190 bs hb (by omega)
          clear hQ hno hnb eW
          repeat' (first | (simp (disch := omega) [go_sem, S49, parts, Part.av, Part.cells, *]) | (omega) | (with_reducible refine Br_dec (fun hp => ?_) (fun hp => ?_)) | (with_reducible refine Br_not ?_) | (with_reducible refine Br_bool (fun hp => ?_) (fun hp => ?_)) | (with_reducible refine bG_dec (fun hp => ?_) (fun hp => ?_)) | (with_reducible refine bG_bool' (fun hp => ?_) (fun hp => ?_)) | (refine bC_spec hst fun v h2 hv => ?_; obtain ⟨rfl, a1, a2⟩ := hv) | ((with_reducible refine Go_regD _ _ ?hn ?_); case hn => rfl) | ((with_reducible refine Go_regN _ _ ?hn ?_); case hn => rfl) | (with_reducible refine dE_some ?_ ?_) | (with_reducible refine dN_some ?_ ?_) | (with_reducible refine dN_some' ?_ ?_) | ((with_reducible refine Rd_dG ?hn _ _ _ _ _ ?_); case hn => rfl) | (with_reducible refine dG_dec (fun hp => ?_) (fun hp => ?_)) | (with_reducible refine dG_bool' (fun hp => ?_) (fun hp => ?_)) | (with_reducible refine Rd_nil' ?_))
          exact ⟨_, Le.refl _, _, rfl⟩
end Go.Eng.Tryz
set_option maxRecDepth 20000
set_option maxHeartbeats 1000000
namespace Go.Eng.Tryz
open Go.Eng Go.Proofs Go.RowKit
/-! ### bits -/
theorem ofInt_nat (a : Nat) (ha : a < 18446744073709551616) : (BitVec.ofInt 64 (a : Int)).toNat = a := by
  rw [BitVec.toNat_ofInt]
  omega
theorem wrap_nat (a : Nat) (ha : a < 18446744073709551616) : IntKind.u64.wrap (a : Int) = a := by
  have e1 : IntKind.u64.wrap (a : Int) = wr .u64 (a : Int) := rfl
  rw [e1, wr_u64 (by omega) (by omega)]
theorem orI_nat (a b : Nat) (ha : a < 18446744073709551616) (hb : b < 18446744073709551616) : orI .u64 a b = ((a ||| b : Nat) : Int) := by
  unfold orI
  show IntKind.u64.wrap ((BitVec.ofInt 64 (a : Int) ||| BitVec.ofInt 64 (b : Int)).toNat : Int) = _
  rw [BitVec.toNat_or, ofInt_nat a ha, ofInt_nat b hb, wrap_nat]
  exact Nat.or_lt_two_pow (n := 64) ha hb
theorem orI_pow (c k : Nat) (hc : c < 18446744073709551616) (hk : k ≤ 63) : orI .u64 c ((2 : Int) ^ k) = ((c ||| 2 ^ k : Nat) : Int) := by
  rw [show ((2 : Int) ^ k) = ((2 ^ k : Nat) : Int) by norm_cast]
  exact orI_nat c _ hc (Nat.pow_lt_pow_right (by decide) (show k < 64 by omega))
theorem bit_nat (b i : Nat) (hb : b < 18446744073709551616) (hi : i ≤ 64) : andI .u64 (shrI .u64 b i) 1 = if b.testBit i = true then 1 else 0 := by
  have e1 : shrI .u64 b i = ((b / 2 ^ i : Nat) : Int) := by
    unfold shrI
    show (b : Int).fdiv (2 ^ (min (i : Int).toNat 64)) = _
    rw [Int.toNat_natCast, Nat.min_eq_left hi, Int.fdiv_eq_ediv_of_nonneg _ (Int.le_of_lt (by exact_mod_cast Nat.two_pow_pos i))]
    norm_cast
  have hlt : b / 2 ^ i < 18446744073709551616 := Nat.lt_of_le_of_lt (Nat.div_le_self _ _) hb
  rw [e1]
  unfold andI
  show IntKind.u64.wrap ((BitVec.ofInt 64 ((b / 2 ^ i : Nat) : Int) &&& BitVec.ofInt 64 ((1 : Nat) : Int)).toNat : Int) = _
  rw [BitVec.toNat_and, ofInt_nat _ hlt, ofInt_nat 1 (by decide), Nat.and_one_is_mod, wrap_nat _ (by omega), Nat.testBit_eq_decide_div_mod_eq]
  by_cases h : b / 2 ^ i % 2 = 1
  · simp [h]
  · have : b / 2 ^ i % 2 = 0 := by omega
    simp [this]
theorem evBin_shlI (h : H) (c : Ck) (k' : IntKind) (i : Int) (h0 : 0 ≤ i) (h1 : i ≤ 63) : evBin h .shl c (.int .u64 1) (.int k' i) = some (.int .u64 ((2 ^ i.toNat : Nat) : Int)) := by
  rw [evBin_shl]; unfold evShift
  rw [if_neg (by omega)]
  show some (AV.int .u64 (IntKind.u64.wrap (1 * 2 ^ (min i.toNat 64)))) = _
  rw [Nat.min_eq_left (by omega), Int.one_mul]
  have e1 : ((2 : Int) ^ i.toNat) = ((2 ^ i.toNat : Nat) : Int) := by norm_cast
  rw [e1, wrap_nat]
  exact Nat.pow_lt_pow_right (by decide) (show i.toNat < 64 by omega)
@[go_sem] theorem subV_2p (a b : AV) (cs : List AV) : subV 2 true 0 (a :: b :: cs) = some (.agg [a, b]) := by simp [subV, sub, mkV]
/-! ### free -/
def freeF : List Part → Nat → Nat → Nat
  | [], _, b => b
  | x :: l, i, b => freeF l (i + 1) (if b.testBit i = true ∧ x.kind = 3 then b ||| 2 ^ (i + 1) else b)
def freeR (l : List Part) (b : Nat) : Nat := freeF l 0 b
def IsM (h : H) (L : Nat) (g : Graph) (l : List Part) : Prop := ∃ rest t f, h.get L = some (.cells (.fsl false 3 (g.nodes.map Node.av) :: .int .i64 g.root :: parts l :: rest) t f) ∧ L < h.next
theorem IsM.same {h h' : H} {L : Nat} {g : Graph} {l : List Part} (hm : IsM h L g l) (hn : h.next ≤ h'.next) (hg : ∀ j, j < h.next → h'.get j = h.get j) : IsM h' L g l := by
  obtain ⟨r, t, f, h1, h2⟩ := hm
  exact ⟨r, t, f, by rw [hg _ h2]; exact h1, by omega⟩
def Kept (h h' : H) : Prop := h.next ≤ h'.next ∧ ∀ j, j < h.next → h'.get j = h.get j
theorem or_bound {a k n : Nat} (ha : a < 2 ^ n) (hk : k < n) : a ||| 2 ^ k < 2 ^ n := Nat.or_lt_two_pow ha (Nat.pow_lt_pow_right (by decide) hk)
theorem freeF_bound : ∀ (l : List Part) (i b n : Nat), i + l.length < n → b < 2 ^ n → freeF l i b < 2 ^ n
  | [], i, b, n, _, hb => hb
  | x :: l, i, b, n, hi, hb => by
    simp only [List.length_cons] at hi
    refine freeF_bound l (i + 1) _ n (by omega) ?_
    split
    · exact or_bound hb (by omega)
    · exact hb
theorem free_ok (h : H) (L : Nat) (g : Graph) (l : List Part) (b : Nat) (hm : IsM h L g l) (hl : l.length ≤ 32) (hb : b < 2 ^ (l.length + 1)) :
    Spc 110 [.ptr L 0, .int .u64 b] h fun v h' => v = .int .u64 (freeR l b) ∧ Kept h h' := by
  obtain ⟨rest, t, f, hg, hL⟩ := hm
  refine sg ok110 rfl ?_
  unfold parts at hg
  repeat' (first | (simp (disch := omega) [go_sem, S110, *]) | (omega) | (with_reducible refine Br_dec (fun hp => ?_) (fun hp => ?_)) | (with_reducible refine Br_not ?_) | (with_reducible refine Br_bool (fun hp => ?_) (fun hp => ?_)) | (with_reducible refine bG_dec (fun hp => ?_) (fun hp => ?_)) | (with_reducible refine bG_bool' (fun hp => ?_) (fun hp => ?_)) | ((with_reducible refine Go_regD _ _ ?hn ?_); case hn => rfl) | ((with_reducible refine Go_regN _ _ ?hn ?_); case hn => rfl) | (with_reducible refine dE_some ?_ ?_) | (with_reducible refine dN_some ?_ ?_) | (with_reducible refine dN_some' ?_ ?_) | ((with_reducible refine Rd_dG ?hn _ _ _ _ _ ?_); case hn => rfl) | (with_reducible refine dG_dec (fun hp => ?_) (fun hp => ?_)) | (with_reducible refine dG_bool' (fun hp => ?_) (fun hp => ?_)) | (with_reducible refine Rd_nil' ?_))
  refine Go_loop (fun m e h1 => ∃ (j c : Nat), m = l.length - j ∧ j ≤ l.length ∧ freeR l b = freeF (l.drop j) j c ∧ c < 2 ^ (l.length + 1) ∧ e.get 12 = .int .i64 j ∧ e.get 11 = .int .i64 l.length ∧ e.get 10 = .fsl false 4 (l.map Part.av) ∧ e.get 1 = .int .u64 c ∧ Kept h h1) (n := l.length) ?_ ?_
  · refine ⟨0, b, ?_⟩
    simp (disch := omega) [go_sem, freeR, Kept, hb]
  · rintro m e h1 ⟨j, c, rfl, hj, hf, hc, q12, q11, q10, q1, hk1, hk2⟩ Q hQ
    have h33 : 2 ^ (l.length + 1) ≤ 2 ^ 33 := Nat.pow_le_pow_right (by decide) (by omega)
    by_cases hlt : j < l.length
    · have hx : l[j]? = some l[j] := List.getElem?_eq_getElem hlt
      have hdr := drop_at l j hlt
      have hQ' : ∀ c', c' = (if c.testBit j = true ∧ l[j].kind = 3 then c ||| 2 ^ (j + 1) else c) → ∀ e' h', e'.get 12 = .int .i64 ((j : Int) + 1) → e'.get 11 = .int .i64 l.length → e'.get 10 = .fsl false 4 (l.map Part.av) → e'.get 1 = .int .u64 (c' : Nat) → Kept h1 h' → Q e' h' :=
        fun c' hc' e' h' r1 r2 r3 r4 r5 => hQ (l.length - (j + 1)) e' h' (by omega) ⟨j + 1, c', rfl, by omega, by rw [hf, hdr]; simp only [freeF]; rw [← hc'], by
          rw [hc']; split
          · exact or_bound hc (by omega)
          · exact hc, r1, r2, r3, r4, by have := r5.1; omega, fun j hj => by rw [r5.2 j (by omega), hk2 j hj]⟩
      have hbit := bit_nat c j (by omega) (by omega)
      have hor := orI_pow c (j + 1) (by omega) (by omega)
      have hj1 : ((j : Int) + 1).toNat = j + 1 := by omega
      clear hQ hf hg
      by_cases c1 : c.testBit j = true
      · rw [if_pos c1] at hbit
        by_cases c2 : l[j].kind = 3
        · have hQ2 := hQ' _ (by rw [if_pos ⟨c1, c2⟩])
          clear hQ'
          repeat' (first | (simp (disch := omega) [go_sem, S110, Part.av, Part.cells, evBin_andI, evBin_orI, evBin_shrI, evBin_shlI, *]) | (omega) | (with_reducible refine Br_dec (fun hp => ?_) (fun hp => ?_)) | (with_reducible refine Br_not ?_) | (with_reducible refine Br_bool (fun hp => ?_) (fun hp => ?_)) | (with_reducible refine bG_dec (fun hp => ?_) (fun hp => ?_)) | (with_reducible refine bG_bool' (fun hp => ?_) (fun hp => ?_)) | ((with_reducible refine Go_regD _ _ ?hn ?_); case hn => rfl) | ((with_reducible refine Go_regN _ _ ?hn ?_); case hn => rfl) | (with_reducible refine dE_some ?_ ?_) | (with_reducible refine dN_some ?_ ?_) | (with_reducible refine dN_some' ?_ ?_) | ((with_reducible refine Rd_dG ?hn _ _ _ _ _ ?_); case hn => rfl) | (with_reducible refine dG_dec (fun hp => ?_) (fun hp => ?_)) | (with_reducible refine dG_bool' (fun hp => ?_) (fun hp => ?_)) | (with_reducible refine Rd_nil' ?_))
          refine hQ2 _ _ ?_ ?_ ?_ ?_ ⟨?_, fun j hj => ?_⟩ <;> simp (disch := omega) [go_sem, *]
        · have hQ2 := hQ' _ (by rw [if_neg (fun h => c2 h.2)])
          clear hQ'
          repeat' (first | (simp (disch := omega) [go_sem, S110, Part.av, Part.cells, evBin_andI, evBin_orI, evBin_shrI, evBin_shlI, *]) | (omega) | (with_reducible refine Br_dec (fun hp => ?_) (fun hp => ?_)) | (with_reducible refine Br_not ?_) | (with_reducible refine Br_bool (fun hp => ?_) (fun hp => ?_)) | (with_reducible refine bG_dec (fun hp => ?_) (fun hp => ?_)) | (with_reducible refine bG_bool' (fun hp => ?_) (fun hp => ?_)) | ((with_reducible refine Go_regD _ _ ?hn ?_); case hn => rfl) | ((with_reducible refine Go_regN _ _ ?hn ?_); case hn => rfl) | (with_reducible refine dE_some ?_ ?_) | (with_reducible refine dN_some ?_ ?_) | (with_reducible refine dN_some' ?_ ?_) | ((with_reducible refine Rd_dG ?hn _ _ _ _ _ ?_); case hn => rfl) | (with_reducible refine dG_dec (fun hp => ?_) (fun hp => ?_)) | (with_reducible refine dG_bool' (fun hp => ?_) (fun hp => ?_)) | (with_reducible refine Rd_nil' ?_))
          refine hQ2 _ _ ?_ ?_ ?_ ?_ ⟨?_, fun j hj => ?_⟩ <;> simp (disch := omega) [go_sem, *]
      · rw [if_neg c1] at hbit
        have hQ2 := hQ' _ (by rw [if_neg (fun h => c1 h.1)])
        clear hQ'
        repeat' (first | (simp (disch := omega) [go_sem, S110, Part.av, Part.cells, evBin_andI, evBin_orI, evBin_shrI, evBin_shlI, *]) | (omega) | (with_reducible refine Br_dec (fun hp => ?_) (fun hp => ?_)) | (with_reducible refine Br_not ?_) | (with_reducible refine Br_bool (fun hp => ?_) (fun hp => ?_)) | (with_reducible refine bG_dec (fun hp => ?_) (fun hp => ?_)) | (with_reducible refine bG_bool' (fun hp => ?_) (fun hp => ?_)) | ((with_reducible refine Go_regD _ _ ?hn ?_); case hn => rfl) | ((with_reducible refine Go_regN _ _ ?hn ?_); case hn => rfl) | (with_reducible refine dE_some ?_ ?_) | (with_reducible refine dN_some ?_ ?_) | (with_reducible refine dN_some' ?_ ?_) | ((with_reducible refine Rd_dG ?hn _ _ _ _ _ ?_); case hn => rfl) | (with_reducible refine dG_dec (fun hp => ?_) (fun hp => ?_)) | (with_reducible refine dG_bool' (fun hp => ?_) (fun hp => ?_)) | (with_reducible refine Rd_nil' ?_))
        refine hQ2 _ _ ?_ ?_ ?_ ?_ ⟨?_, fun j hj => ?_⟩ <;> simp (disch := omega) [go_sem, *]
    · have hdr := drop_all l j hlt
      rw [hdr] at hf
      simp only [freeF] at hf
      clear hQ hg
      repeat' (first | (simp (disch := omega) [go_sem, S110, *]) | (omega) | (with_reducible refine Br_dec (fun hp => ?_) (fun hp => ?_)) | (with_reducible refine Br_not ?_) | (with_reducible refine Br_bool (fun hp => ?_) (fun hp => ?_)) | (with_reducible refine bG_dec (fun hp => ?_) (fun hp => ?_)) | (with_reducible refine bG_bool' (fun hp => ?_) (fun hp => ?_)) | ((with_reducible refine Go_regD _ _ ?hn ?_); case hn => rfl) | ((with_reducible refine Go_regN _ _ ?hn ?_); case hn => rfl) | (with_reducible refine dE_some ?_ ?_) | (with_reducible refine dN_some ?_ ?_) | (with_reducible refine dN_some' ?_ ?_) | ((with_reducible refine Rd_dG ?hn _ _ _ _ _ ?_); case hn => rfl) | (with_reducible refine dG_dec (fun hp => ?_) (fun hp => ?_)) | (with_reducible refine dG_bool' (fun hp => ?_) (fun hp => ?_)) | (with_reducible refine Rd_nil' ?_))
      exact ⟨hk1, hk2⟩
theorem begin_ok (h : H) (L : Nat) (g : Graph) (l : List Part) (hm : IsM h L g l) (hl : l.length ≤ 32) :
    Spc 50 [.ptr L 0] h fun v h' => v = .int .u64 (freeR l 1) ∧ Kept h h' := by
  refine sg ok50 rfl ?_
  have hf := free_ok h L g l 1 hm hl (by have : 2 ^ 1 ≤ 2 ^ (l.length + 1) := Nat.pow_le_pow_right (by decide) (by omega); omega)
  rw [show ((1 : Nat) : Int) = 1 from rfl] at hf
  repeat' (first | (simp (disch := omega) [go_sem, S50, *]) | (omega) | (with_reducible refine Br_dec (fun hp => ?_) (fun hp => ?_)) | (with_reducible refine Br_not ?_) | (with_reducible refine Br_bool (fun hp => ?_) (fun hp => ?_)) | (with_reducible refine bG_dec (fun hp => ?_) (fun hp => ?_)) | (with_reducible refine bG_bool' (fun hp => ?_) (fun hp => ?_)) | (refine bC_spec hf fun v h2 hv => ?_; obtain ⟨rfl, hk⟩ := hv) | (exact hk) | ((with_reducible refine Go_regD _ _ ?hn ?_); case hn => rfl) | ((with_reducible refine Go_regN _ _ ?hn ?_); case hn => rfl) | (with_reducible refine dE_some ?_ ?_) | (with_reducible refine dN_some ?_ ?_) | (with_reducible refine dN_some' ?_ ?_) | ((with_reducible refine Rd_dG ?hn _ _ _ _ _ ?_); case hn => rfl) | (with_reducible refine dG_dec (fun hp => ?_) (fun hp => ?_)) | (with_reducible refine dG_bool' (fun hp => ?_) (fun hp => ?_)) | (with_reducible refine Rd_nil' ?_))
theorem all_ok (h : H) (L : Nat) (g : Graph) (l : List Part) (b : Nat) (hm : IsM h L g l) (hl : l.length ≤ 32) (hb : b < 2 ^ (l.length + 1)) :
    Spc 52 [.ptr L 0, .int .u64 b] h fun v h' => v = .bool (b.testBit l.length) ∧ h' = h := by
  obtain ⟨rest, t, f, hg, hL⟩ := hm
  refine sg ok52 rfl ?_
  unfold parts at hg
  have h33 : 2 ^ (l.length + 1) ≤ 2 ^ 33 := Nat.pow_le_pow_right (by decide) (by omega)
  have hbit := bit_nat b l.length (by omega) (by omega)
  cases hc : b.testBit l.length with
  | true =>
    rw [hc, if_pos rfl] at hbit
    repeat' (first | (simp (disch := omega) [go_sem, S52, Part.av, Part.cells, evBin_andI, evBin_orI, evBin_shrI, evBin_shlI, *]) | (omega) | (with_reducible refine Br_dec (fun hp => ?_) (fun hp => ?_)) | (with_reducible refine Br_not ?_) | (with_reducible refine Br_bool (fun hp => ?_) (fun hp => ?_)) | (with_reducible refine bG_dec (fun hp => ?_) (fun hp => ?_)) | (with_reducible refine bG_bool' (fun hp => ?_) (fun hp => ?_)) | ((with_reducible refine Go_regD _ _ ?hn ?_); case hn => rfl) | ((with_reducible refine Go_regN _ _ ?hn ?_); case hn => rfl) | (with_reducible refine dE_some ?_ ?_) | (with_reducible refine dN_some ?_ ?_) | (with_reducible refine dN_some' ?_ ?_) | ((with_reducible refine Rd_dG ?hn _ _ _ _ _ ?_); case hn => rfl) | (with_reducible refine dG_dec (fun hp => ?_) (fun hp => ?_)) | (with_reducible refine dG_bool' (fun hp => ?_) (fun hp => ?_)) | (with_reducible refine Rd_nil' ?_))
  | false =>
    rw [hc, if_neg (by decide)] at hbit
    repeat' (first | (simp (disch := omega) [go_sem, S52, Part.av, Part.cells, evBin_andI, evBin_orI, evBin_shrI, evBin_shlI, *]) | (omega) | (with_reducible refine Br_dec (fun hp => ?_) (fun hp => ?_)) | (with_reducible refine Br_not ?_) | (with_reducible refine Br_bool (fun hp => ?_) (fun hp => ?_)) | (with_reducible refine bG_dec (fun hp => ?_) (fun hp => ?_)) | (with_reducible refine bG_bool' (fun hp => ?_) (fun hp => ?_)) | ((with_reducible refine Go_regD _ _ ?hn ?_); case hn => rfl) | ((with_reducible refine Go_regN _ _ ?hn ?_); case hn => rfl) | (with_reducible refine dE_some ?_ ?_) | (with_reducible refine dN_some ?_ ?_) | (with_reducible refine dN_some' ?_ ?_) | ((with_reducible refine Rd_dG ?hn _ _ _ _ _ ?_); case hn => rfl) | (with_reducible refine dG_dec (fun hp => ?_) (fun hp => ?_)) | (with_reducible refine dG_bool' (fun hp => ?_) (fun hp => ?_)) | (with_reducible refine Rd_nil' ?_))
/-! ### one step -/
def oneR (g : Graph) (x : Part) (w : Step) (a : Int) : Bool :=
  if w.isAt ≠ decide (4 ≤ x.kind) then false
  else if x.kind = 1 then decide (w.key = x.text)
  else if x.kind = 4 then decide (w.index = x.n)
  else if x.kind = 6 then (match findR g a 4 x.text with
    | some v => (match g.nodes[v.toNat]? with
      | some n => decide (n.kind ≤ 4) && decide (n.text = x.value)
      | none => false)
    | none => false)
  else true
theorem one_ok (h : H) (L : Nat) (g : Graph) (l : List Part) (x : Part) (w : Step) (a : Int) (hg : Small g) (hm : IsM h L g l) :
    Spc 111 [.ptr L 0, x.av, w.av, .int .i64 a] h fun v h' => v = .bool (oneR g x w a) ∧ Kept h h' := by
  obtain ⟨rest, t, f, hgm, hL⟩ := hm
  refine sg ok111 rfl ?_
  unfold parts at hgm
  have hgn := hg.nodes
  have hfd := Find_ok g hg a 4 x.text
  unfold Graph.av Graph.cells at hfd
  by_cases c0 : w.isAt = decide (4 ≤ x.kind)
  · by_cases c1 : x.kind = 1
    · have e : oneR g x w a = decide (w.key = x.text) := by simp [oneR, c0, c1]
      rw [c1] at c0
      repeat' (first | (simp (disch := omega) [go_sem, S111, Part.av, Part.cells, Step.av, Step.cells, *]) | (omega) | (with_reducible refine Br_dec (fun hp => ?_) (fun hp => ?_)) | (with_reducible refine Br_not ?_) | (with_reducible refine Br_bool (fun hp => ?_) (fun hp => ?_)) | (with_reducible refine bG_dec (fun hp => ?_) (fun hp => ?_)) | (with_reducible refine bG_bool' (fun hp => ?_) (fun hp => ?_)) | ((with_reducible refine Go_regD _ _ ?hn ?_); case hn => rfl) | ((with_reducible refine Go_regN _ _ ?hn ?_); case hn => rfl) | (with_reducible refine dE_some ?_ ?_) | (with_reducible refine dN_some ?_ ?_) | (with_reducible refine dN_some' ?_ ?_) | ((with_reducible refine Rd_dG ?hn _ _ _ _ _ ?_); case hn => rfl) | (with_reducible refine dG_dec (fun hp => ?_) (fun hp => ?_)) | (with_reducible refine dG_bool' (fun hp => ?_) (fun hp => ?_)) | (with_reducible refine Rd_nil' ?_))
      all_goals exact ⟨by simp [go_sem] <;> omega, fun j hj => by simp (disch := omega) [go_sem]⟩
    by_cases c4 : x.kind = 4
    · have e : oneR g x w a = decide (w.index = x.n) := by simp [oneR, c0, c4]
      rw [c4] at c0
      repeat' (first | (simp (disch := omega) [go_sem, S111, Part.av, Part.cells, Step.av, Step.cells, *]) | (omega) | (with_reducible refine Br_dec (fun hp => ?_) (fun hp => ?_)) | (with_reducible refine Br_not ?_) | (with_reducible refine Br_bool (fun hp => ?_) (fun hp => ?_)) | (with_reducible refine bG_dec (fun hp => ?_) (fun hp => ?_)) | (with_reducible refine bG_bool' (fun hp => ?_) (fun hp => ?_)) | ((with_reducible refine Go_regD _ _ ?hn ?_); case hn => rfl) | ((with_reducible refine Go_regN _ _ ?hn ?_); case hn => rfl) | (with_reducible refine dE_some ?_ ?_) | (with_reducible refine dN_some ?_ ?_) | (with_reducible refine dN_some' ?_ ?_) | ((with_reducible refine Rd_dG ?hn _ _ _ _ _ ?_); case hn => rfl) | (with_reducible refine dG_dec (fun hp => ?_) (fun hp => ?_)) | (with_reducible refine dG_bool' (fun hp => ?_) (fun hp => ?_)) | (with_reducible refine Rd_nil' ?_))
      all_goals exact ⟨by simp [go_sem] <;> omega, fun j hj => by simp (disch := omega) [go_sem]⟩
    by_cases c6 : x.kind = 6
    · have e : oneR g x w a = (match findR g a 4 x.text with
        | some v => (match g.nodes[v.toNat]? with
          | some n => decide (n.kind ≤ 4) && decide (n.text = x.value)
          | none => false)
        | none => false) := by simp [oneR, c0, c6]
      rw [c6] at c0
      cases hfr : findR g a 4 x.text with
      | none =>
        rw [hfr] at e hfd
        simp only at e
        repeat' (first | (simp (disch := omega) [go_sem, S111, Part.av, Part.cells, Step.av, Step.cells, optV, *]) | (omega) | (with_reducible refine Br_dec (fun hp => ?_) (fun hp => ?_)) | (with_reducible refine Br_not ?_) | (with_reducible refine Br_bool (fun hp => ?_) (fun hp => ?_)) | (with_reducible refine bG_dec (fun hp => ?_) (fun hp => ?_)) | (with_reducible refine bG_bool' (fun hp => ?_) (fun hp => ?_)) | (refine bC_v hfd ?_) | (refine dC_v hfd ?_) | ((with_reducible refine Go_regD _ _ ?hn ?_); case hn => rfl) | ((with_reducible refine Go_regN _ _ ?hn ?_); case hn => rfl) | (with_reducible refine dE_some ?_ ?_) | (with_reducible refine dN_some ?_ ?_) | (with_reducible refine dN_some' ?_ ?_) | ((with_reducible refine Rd_dG ?hn _ _ _ _ _ ?_); case hn => rfl) | (with_reducible refine dG_dec (fun hp => ?_) (fun hp => ?_)) | (with_reducible refine dG_bool' (fun hp => ?_) (fun hp => ?_)) | (with_reducible refine Rd_nil' ?_))
        all_goals exact ⟨by simp [go_sem] <;> omega, fun j hj => by simp (disch := omega) [go_sem]⟩
      | some y =>
        obtain ⟨hb0, hb1⟩ := findR_range hfr
        have hyn : y.toNat < g.nodes.length := by omega
        have hy : g.nodes[y.toNat]? = some g.nodes[y.toNat] := List.getElem?_eq_getElem hyn
        rw [hfr] at e hfd
        simp only [hy] at e
        by_cases c7 : g.nodes[y.toNat].kind ≤ 4
        · have e2 : oneR g x w a = decide (g.nodes[y.toNat].text = x.value) := by rw [e]; simp [c7]
          clear e
          repeat' (first | (simp (disch := omega) [go_sem, S111, Part.av, Part.cells, Step.av, Step.cells, Node.av, Node.cells, ints, optV, *]) | (omega) | (with_reducible refine Br_dec (fun hp => ?_) (fun hp => ?_)) | (with_reducible refine Br_not ?_) | (with_reducible refine Br_bool (fun hp => ?_) (fun hp => ?_)) | (with_reducible refine bG_dec (fun hp => ?_) (fun hp => ?_)) | (with_reducible refine bG_bool' (fun hp => ?_) (fun hp => ?_)) | (refine bC_v hfd ?_) | (refine dC_v hfd ?_) | ((with_reducible refine Go_regD _ _ ?hn ?_); case hn => rfl) | ((with_reducible refine Go_regN _ _ ?hn ?_); case hn => rfl) | (with_reducible refine dE_some ?_ ?_) | (with_reducible refine dN_some ?_ ?_) | (with_reducible refine dN_some' ?_ ?_) | ((with_reducible refine Rd_dG ?hn _ _ _ _ _ ?_); case hn => rfl) | (with_reducible refine dG_dec (fun hp => ?_) (fun hp => ?_)) | (with_reducible refine dG_bool' (fun hp => ?_) (fun hp => ?_)) | (with_reducible refine Rd_nil' ?_))
          all_goals exact ⟨by simp [go_sem] <;> omega, fun j hj => by simp (disch := omega) [go_sem]⟩
        · have e2 : oneR g x w a = false := by rw [e]; simp [c7]
          clear e
          repeat' (first | (simp (disch := omega) [go_sem, S111, Part.av, Part.cells, Step.av, Step.cells, Node.av, Node.cells, ints, optV, *]) | (omega) | (with_reducible refine Br_dec (fun hp => ?_) (fun hp => ?_)) | (with_reducible refine Br_not ?_) | (with_reducible refine Br_bool (fun hp => ?_) (fun hp => ?_)) | (with_reducible refine bG_dec (fun hp => ?_) (fun hp => ?_)) | (with_reducible refine bG_bool' (fun hp => ?_) (fun hp => ?_)) | (refine bC_v hfd ?_) | (refine dC_v hfd ?_) | ((with_reducible refine Go_regD _ _ ?hn ?_); case hn => rfl) | ((with_reducible refine Go_regN _ _ ?hn ?_); case hn => rfl) | (with_reducible refine dE_some ?_ ?_) | (with_reducible refine dN_some ?_ ?_) | (with_reducible refine dN_some' ?_ ?_) | ((with_reducible refine Rd_dG ?hn _ _ _ _ _ ?_); case hn => rfl) | (with_reducible refine dG_dec (fun hp => ?_) (fun hp => ?_)) | (with_reducible refine dG_bool' (fun hp => ?_) (fun hp => ?_)) | (with_reducible refine Rd_nil' ?_))
          all_goals exact ⟨by simp [go_sem] <;> omega, fun j hj => by simp (disch := omega) [go_sem]⟩
    · have e : oneR g x w a = true := by simp [oneR, c0, c1, c4, c6]
      cases c8 : decide (4 ≤ x.kind) <;> rw [c8] at c0 <;> repeat' (first | (simp (disch := omega) [go_sem, S111, Part.av, Part.cells, Step.av, Step.cells, *]) | (omega) | (with_reducible refine Br_dec (fun hp => ?_) (fun hp => ?_)) | (with_reducible refine Br_not ?_) | (with_reducible refine Br_bool (fun hp => ?_) (fun hp => ?_)) | (with_reducible refine bG_dec (fun hp => ?_) (fun hp => ?_)) | (with_reducible refine bG_bool' (fun hp => ?_) (fun hp => ?_)) | ((with_reducible refine Go_regD _ _ ?hn ?_); case hn => rfl) | ((with_reducible refine Go_regN _ _ ?hn ?_); case hn => rfl) | (with_reducible refine dE_some ?_ ?_) | (with_reducible refine dN_some ?_ ?_) | (with_reducible refine dN_some' ?_ ?_) | ((with_reducible refine Rd_dG ?hn _ _ _ _ _ ?_); case hn => rfl) | (with_reducible refine dG_dec (fun hp => ?_) (fun hp => ?_)) | (with_reducible refine dG_bool' (fun hp => ?_) (fun hp => ?_)) | (with_reducible refine Rd_nil' ?_))
      all_goals exact ⟨by simp [go_sem] <;> omega, fun j hj => by simp (disch := omega) [go_sem]⟩
  · have e : oneR g x w a = false := by simp [oneR, c0]
    cases c8 : decide (4 ≤ x.kind) <;> rw [c8] at c0 <;> repeat' (first | (simp (disch := omega) [go_sem, S111, Part.av, Part.cells, Step.av, Step.cells, *]) | (omega) | (with_reducible refine Br_dec (fun hp => ?_) (fun hp => ?_)) | (with_reducible refine Br_not ?_) | (with_reducible refine Br_bool (fun hp => ?_) (fun hp => ?_)) | (with_reducible refine bG_dec (fun hp => ?_) (fun hp => ?_)) | (with_reducible refine bG_bool' (fun hp => ?_) (fun hp => ?_)) | ((with_reducible refine Go_regD _ _ ?hn ?_); case hn => rfl) | ((with_reducible refine Go_regN _ _ ?hn ?_); case hn => rfl) | (with_reducible refine dE_some ?_ ?_) | (with_reducible refine dN_some ?_ ?_) | (with_reducible refine dN_some' ?_ ?_) | ((with_reducible refine Rd_dG ?hn _ _ _ _ _ ?_); case hn => rfl) | (with_reducible refine dG_dec (fun hp => ?_) (fun hp => ?_)) | (with_reducible refine dG_bool' (fun hp => ?_) (fun hp => ?_)) | (with_reducible refine Rd_nil' ?_))
    all_goals exact ⟨by simp [go_sem] <;> omega, fun j hj => by simp (disch := omega) [go_sem]⟩
end Go.Eng.Tryz
set_option maxRecDepth 20000
set_option maxHeartbeats 1000000
namespace Go.Eng.Tryz
open Go.Eng Go.Proofs Go.RowKit
def nextF (one : Part → Bool) (bits : Nat) : List Part → Nat → Nat → Nat
  | [], _, n => n
  | x :: l, i, n => nextF one bits l (i + 1) (if bits.testBit i = false then n else if x.kind = 3 then n ||| 2 ^ i else if one x = true then n ||| 2 ^ (i + 1) else n)
def stepR (g : Graph) (l : List Part) (b : Nat) (w : Step) (a : Int) : Nat := freeR l (nextF (fun x => oneR g x w a) b l 0 0)
theorem nextF_bound (one : Part → Bool) (bits : Nat) : ∀ (l : List Part) (i n k : Nat), i + l.length < k → n < 2 ^ k → nextF one bits l i n < 2 ^ k
  | [], i, n, k, _, hn => hn
  | x :: l, i, n, k, hi, hn => by
    simp only [List.length_cons] at hi
    refine nextF_bound one bits l (i + 1) _ k (by omega) ?_
    split
    · exact hn
    · split
      · exact or_bound hn (by omega)
      · split
        · exact or_bound hn (by omega)
        · exact hn
theorem freeR_bound (l : List Part) (b : Nat) (hb : b < 2 ^ (l.length + 1)) : freeR l b < 2 ^ (l.length + 1) := freeF_bound l 0 b _ (by omega) hb
theorem stepR_bound (g : Graph) (l : List Part) (b : Nat) (w : Step) (a : Int) : stepR g l b w a < 2 ^ (l.length + 1) := freeR_bound _ _ (nextF_bound _ _ _ _ _ _ (by omega) (Nat.two_pow_pos _))
theorem step_ok (h : H) (L : Nat) (g : Graph) (l : List Part) (b : Nat) (w : Step) (a : Int) (hg : Small g) (hm : IsM h L g l) (hl : l.length ≤ 32) (hb : b < 2 ^ (l.length + 1)) :
    Spc 51 [.ptr L 0, .int .u64 b, w.av, .int .i64 a] h fun v h' => v = .int .u64 (stepR g l b w a) ∧ Kept h h' := by
  have hm0 := hm
  obtain ⟨rest, t, f, hgm, hL⟩ := hm
  refine sg ok51 rfl ?_
  unfold parts at hgm
  repeat' (first | (simp (disch := omega) [go_sem, S51, Step.av, Step.cells, *]) | (omega) | (with_reducible refine Br_dec (fun hp => ?_) (fun hp => ?_)) | (with_reducible refine Br_not ?_) | (with_reducible refine Br_bool (fun hp => ?_) (fun hp => ?_)) | (with_reducible refine bG_dec (fun hp => ?_) (fun hp => ?_)) | (with_reducible refine bG_bool' (fun hp => ?_) (fun hp => ?_)) | ((with_reducible refine Go_regD _ _ ?hn ?_); case hn => rfl) | ((with_reducible refine Go_regN _ _ ?hn ?_); case hn => rfl) | (with_reducible refine dE_some ?_ ?_) | (with_reducible refine dN_some ?_ ?_) | (with_reducible refine dN_some' ?_ ?_) | ((with_reducible refine Rd_dG ?hn _ _ _ _ _ ?_); case hn => rfl) | (with_reducible refine dG_dec (fun hp => ?_) (fun hp => ?_)) | (with_reducible refine dG_bool' (fun hp => ?_) (fun hp => ?_)) | (with_reducible refine Rd_nil' ?_))
  refine Go_loop (fun m e h1 => ∃ (j c : Nat), m = l.length - j ∧ j ≤ l.length ∧ nextF (fun x => oneR g x w a) b l 0 0 = nextF (fun x => oneR g x w a) b (l.drop j) j c ∧ c < 2 ^ (l.length + 1) ∧ e.get 17 = .int .i64 j ∧ e.get 16 = .int .i64 l.length ∧ e.get 15 = .fsl false 4 (l.map Part.av) ∧ e.get 9 = .int .u64 c ∧ e.get 1 = .int .u64 b ∧ e.get 0 = .ptr L 0 ∧ e.get 3 = .int .i64 a ∧ e.get 6 = .ptr h.next 0 ∧ h1.get h.next = some (.cells w.cells 85 (some 0)) ∧ h.next < h1.next ∧ Kept h h1) (n := l.length) ?_ ?_
  · refine ⟨0, 0, ?_⟩
    simp (disch := omega) [go_sem, Step.cells, Kept]
    exact ⟨Nat.two_pow_pos _, fun j hj => by simp (disch := omega) [go_sem]⟩
  · rintro m e h1 ⟨j, c, rfl, hj, hf, hc, q17, q16, q15, q9, q1, q0, q3, q6, hgw, hn1, hk1, hk2⟩ Q hQ
    have h33 : 2 ^ (l.length + 1) ≤ 2 ^ 33 := Nat.pow_le_pow_right (by decide) (by omega)
    by_cases hlt : j < l.length
    · have hx : l[j]? = some l[j] := List.getElem?_eq_getElem hlt
      have hdr := drop_at l j hlt
      have hQ' : ∀ c', c' = (if b.testBit j = false then c else if l[j].kind = 3 then c ||| 2 ^ j else if oneR g l[j] w a = true then c ||| 2 ^ (j + 1) else c) → ∀ e' h', e'.get 17 = .int .i64 ((j : Int) + 1) → e'.get 16 = .int .i64 l.length → e'.get 15 = .fsl false 4 (l.map Part.av) → e'.get 9 = .int .u64 (c' : Nat) → e'.get 1 = .int .u64 b → e'.get 0 = .ptr L 0 → e'.get 3 = .int .i64 a → e'.get 6 = .ptr h.next 0 → Kept h1 h' → Q e' h' :=
        fun c' hc' e' h' r1 r2 r3 r4 r5 r6 r7 r8 r9 => hQ (l.length - (j + 1)) e' h' (by omega) ⟨j + 1, c', rfl, by omega, by rw [hf, hdr]; simp only [nextF]; rw [← hc'], by
          rw [hc']; split
          · exact hc
          · split
            · exact or_bound hc (by omega)
            · split
              · exact or_bound hc (by omega)
              · exact hc, r1, r2, r3, r4, r5, r6, r7, r8, by rw [r9.2 _ hn1]; exact hgw, by have := r9.1; omega, by have := r9.1; omega, fun j hj => by rw [r9.2 j (by omega), hk2 j hj]⟩
      have hbit := bit_nat b j (by omega) (by omega)
      have hor := orI_pow c (j + 1) (by omega) (by omega)
      have hor2 := orI_pow c j (by omega) (by omega)
      have hj1 : ((j : Int) + 1).toNat = j + 1 := by omega
      have hmm : IsM h1 L g l := hm0.same hk1 hk2
      have hone := fun h2 (k : Kept h1 h2) => one_ok h2 L g l l[j] w a hg (hmm.same k.1 k.2)
      unfold Part.av Part.cells Step.av Step.cells at hone
      unfold Step.cells at hgw
      clear hQ hf hgm
      cases c1 : b.testBit j with
      | true =>
        rw [if_pos c1] at hbit
        by_cases c2 : l[j].kind = 3
        · have hQ2 := hQ' _ (by rw [if_neg (by rw [c1]; decide), if_pos c2])
          clear hQ'
          repeat' (first | (simp (disch := omega) [go_sem, S51, Part.av, Part.cells, evBin_andI, evBin_orI, evBin_shrI, evBin_shlI, *]) | (omega) | (with_reducible refine Br_dec (fun hp => ?_) (fun hp => ?_)) | (with_reducible refine Br_not ?_) | (with_reducible refine Br_bool (fun hp => ?_) (fun hp => ?_)) | (with_reducible refine bG_dec (fun hp => ?_) (fun hp => ?_)) | (with_reducible refine bG_bool' (fun hp => ?_) (fun hp => ?_)) | ((with_reducible refine Go_regD _ _ ?hn ?_); case hn => rfl) | ((with_reducible refine Go_regN _ _ ?hn ?_); case hn => rfl) | (with_reducible refine dE_some ?_ ?_) | (with_reducible refine dN_some ?_ ?_) | (with_reducible refine dN_some' ?_ ?_) | ((with_reducible refine Rd_dG ?hn _ _ _ _ _ ?_); case hn => rfl) | (with_reducible refine dG_dec (fun hp => ?_) (fun hp => ?_)) | (with_reducible refine dG_bool' (fun hp => ?_) (fun hp => ?_)) | (with_reducible refine Rd_nil' ?_))
          refine hQ2 _ _ ?_ ?_ ?_ ?_ ?_ ?_ ?_ ?_ ⟨?_, fun j hj => ?_⟩ <;> simp (disch := omega) [go_sem, *]
        · cases c3 : oneR g l[j] w a with
          | true =>
            have hQ2 := hQ' _ (by rw [if_neg (by rw [c1]; decide), if_neg c2, if_pos c3])
            rw [c3] at hone
            clear hQ'
            repeat' (first | (simp (disch := omega) [go_sem, S51, Part.av, Part.cells, Step.cells, evBin_andI, evBin_orI, evBin_shrI, evBin_shlI, *]) | (omega) | (with_reducible refine Br_dec (fun hp => ?_) (fun hp => ?_)) | (with_reducible refine Br_not ?_) | (with_reducible refine Br_bool (fun hp => ?_) (fun hp => ?_)) | (with_reducible refine bG_dec (fun hp => ?_) (fun hp => ?_)) | (with_reducible refine bG_bool' (fun hp => ?_) (fun hp => ?_)) | (refine bC_spec (hone _ ⟨by simp [go_sem] <;> omega, fun j hj => by simp (disch := omega) [go_sem]⟩) fun v h2 hv => ?_; obtain ⟨rfl, hk⟩ := hv; have k1 := hk.1; have k2 := hk.2; clear hk; simp only [go_sem] at k1) | ((with_reducible refine Go_regD _ _ ?hn ?_); case hn => rfl) | ((with_reducible refine Go_regN _ _ ?hn ?_); case hn => rfl) | (with_reducible refine dE_some ?_ ?_) | (with_reducible refine dN_some ?_ ?_) | (with_reducible refine dN_some' ?_ ?_) | ((with_reducible refine Rd_dG ?hn _ _ _ _ _ ?_); case hn => rfl) | (with_reducible refine dG_dec (fun hp => ?_) (fun hp => ?_)) | (with_reducible refine dG_bool' (fun hp => ?_) (fun hp => ?_)) | (with_reducible refine Rd_nil' ?_))
            refine hQ2 _ _ ?_ ?_ ?_ ?_ ?_ ?_ ?_ ?_ ⟨by omega, fun j hj => by rw [k2 j (by simp [go_sem]; omega)]; simp (disch := omega) [go_sem]⟩ <;> simp (disch := omega) [go_sem, *]
          | false =>
            have hQ2 := hQ' _ (by rw [if_neg (by rw [c1]; decide), if_neg c2, if_neg (by rw [c3]; decide)])
            rw [c3] at hone
            clear hQ'
            repeat' (first | (simp (disch := omega) [go_sem, S51, Part.av, Part.cells, Step.cells, evBin_andI, evBin_orI, evBin_shrI, evBin_shlI, *]) | (omega) | (with_reducible refine Br_dec (fun hp => ?_) (fun hp => ?_)) | (with_reducible refine Br_not ?_) | (with_reducible refine Br_bool (fun hp => ?_) (fun hp => ?_)) | (with_reducible refine bG_dec (fun hp => ?_) (fun hp => ?_)) | (with_reducible refine bG_bool' (fun hp => ?_) (fun hp => ?_)) | (refine bC_spec (hone _ ⟨by simp [go_sem] <;> omega, fun j hj => by simp (disch := omega) [go_sem]⟩) fun v h2 hv => ?_; obtain ⟨rfl, hk⟩ := hv; have k1 := hk.1; have k2 := hk.2; clear hk; simp only [go_sem] at k1) | ((with_reducible refine Go_regD _ _ ?hn ?_); case hn => rfl) | ((with_reducible refine Go_regN _ _ ?hn ?_); case hn => rfl) | (with_reducible refine dE_some ?_ ?_) | (with_reducible refine dN_some ?_ ?_) | (with_reducible refine dN_some' ?_ ?_) | ((with_reducible refine Rd_dG ?hn _ _ _ _ _ ?_); case hn => rfl) | (with_reducible refine dG_dec (fun hp => ?_) (fun hp => ?_)) | (with_reducible refine dG_bool' (fun hp => ?_) (fun hp => ?_)) | (with_reducible refine Rd_nil' ?_))
            refine hQ2 _ _ ?_ ?_ ?_ ?_ ?_ ?_ ?_ ?_ ⟨by omega, fun j hj => by rw [k2 j (by simp [go_sem]; omega)]; simp (disch := omega) [go_sem]⟩ <;> simp (disch := omega) [go_sem, *]
      | false =>
        rw [if_neg (by rw [c1]; decide)] at hbit
        have hQ2 := hQ' _ (by rw [if_pos c1])
        clear hQ'
        repeat' (first | (simp (disch := omega) [go_sem, S51, Part.av, Part.cells, evBin_andI, evBin_orI, evBin_shrI, evBin_shlI, *]) | (omega) | (with_reducible refine Br_dec (fun hp => ?_) (fun hp => ?_)) | (with_reducible refine Br_not ?_) | (with_reducible refine Br_bool (fun hp => ?_) (fun hp => ?_)) | (with_reducible refine bG_dec (fun hp => ?_) (fun hp => ?_)) | (with_reducible refine bG_bool' (fun hp => ?_) (fun hp => ?_)) | ((with_reducible refine Go_regD _ _ ?hn ?_); case hn => rfl) | ((with_reducible refine Go_regN _ _ ?hn ?_); case hn => rfl) | (with_reducible refine dE_some ?_ ?_) | (with_reducible refine dN_some ?_ ?_) | (with_reducible refine dN_some' ?_ ?_) | ((with_reducible refine Rd_dG ?hn _ _ _ _ _ ?_); case hn => rfl) | (with_reducible refine dG_dec (fun hp => ?_) (fun hp => ?_)) | (with_reducible refine dG_bool' (fun hp => ?_) (fun hp => ?_)) | (with_reducible refine Rd_nil' ?_))
        refine hQ2 _ _ ?_ ?_ ?_ ?_ ?_ ?_ ?_ ?_ ⟨?_, fun j hj => ?_⟩ <;> simp (disch := omega) [go_sem, *]
    · have hdr := drop_all l j hlt
      rw [hdr] at hf
      simp only [nextF] at hf
      have hfr := free_ok h1 L g l c (hm0.same hk1 hk2) hl hc
      have hst : stepR g l b w a = freeR l c := by unfold stepR; rw [hf]
      clear hQ hgm hf
      repeat' (first | (simp (disch := omega) [go_sem, S51, *]) | (omega) | (with_reducible refine Br_dec (fun hp => ?_) (fun hp => ?_)) | (with_reducible refine Br_not ?_) | (with_reducible refine Br_bool (fun hp => ?_) (fun hp => ?_)) | (with_reducible refine bG_dec (fun hp => ?_) (fun hp => ?_)) | (with_reducible refine bG_bool' (fun hp => ?_) (fun hp => ?_)) | (refine bC_spec hfr fun v h2 hv => ?_; obtain ⟨rfl, k1, k2⟩ := hv) | ((with_reducible refine Go_regD _ _ ?hn ?_); case hn => rfl) | ((with_reducible refine Go_regN _ _ ?hn ?_); case hn => rfl) | (with_reducible refine dE_some ?_ ?_) | (with_reducible refine dN_some ?_ ?_) | (with_reducible refine dN_some' ?_ ?_) | ((with_reducible refine Rd_dG ?hn _ _ _ _ _ ?_); case hn => rfl) | (with_reducible refine dG_dec (fun hp => ?_) (fun hp => ?_)) | (with_reducible refine dG_bool' (fun hp => ?_) (fun hp => ?_)) | (with_reducible refine Rd_nil' ?_))
      exact ⟨by omega, fun j hj => by rw [k2 j (by omega), hk2 j hj]⟩
/-! ### Match -/
def goR (g : Graph) (l : List Part) (way : List Step) : Nat → Nat
  | 0 => freeR l 1
  | i + 1 => match way[i]? with
    | some w => stepR g l (goR g l way i) w (getR g (way.take (i + 1))).1
    | none => goR g l way i
def matchR (g : Graph) (l : List Part) (way : List Step) : Bool × Int :=
  if fmtE l ≠ 0 then (false, 1) else if (getR g way).2 ≠ 0 then (false, (getR g way).2) else ((goR g l way way.length).testBit l.length, 0)
theorem begin_bound (l : List Part) : freeR l 1 < 2 ^ (l.length + 1) := freeR_bound l 1 (by have : 2 ^ 1 ≤ 2 ^ (l.length + 1) := Nat.pow_le_pow_right (by decide) (by omega); omega)
theorem goR_bound (g : Graph) (l : List Part) (way : List Step) : ∀ i, goR g l way i < 2 ^ (l.length + 1)
  | 0 => begin_bound l
  | i + 1 => by
    simp only [goR]
    split
    · exact stepR_bound _ _ _ _ _
    · exact goR_bound g l way i
theorem fmtE_zero {l : List Part} (h : fmtE l = 0) : l.length ≤ 32 ∧ ∀ x ∈ l, isPartR x = true ∧ isLongR x = false ∧ partE x = 0 := by
  unfold fmtE at h
  split at h
  · cases h
  · split at h
    · cases h
    · split at h
      · cases h
      · rename_i h1 h2 h3
        have h2' : ¬ 32 < l.length ∧ ¬ l.any isLongR = true := ⟨fun c => h2 (.inl c), fun c => h2 (.inr c)⟩
        refine ⟨by omega, fun x hx => ⟨?_, ?_, ?_⟩⟩
        · cases hc : isPartR x with
          | true => rfl
          | false => exact absurd (List.any_eq_true.2 ⟨x, hx, by rw [hc]; rfl⟩) h1
        · cases hc : isLongR x with
          | false => rfl
          | true => exact absurd (List.any_eq_true.2 ⟨x, hx, hc⟩) h2'.2
        · apply Classical.byContradiction; intro hc
          exact h3 (List.any_eq_true.2 ⟨x, hx, by rw [decide_eq_true_eq]; exact hc⟩)
theorem Match_ok (g : Graph) (hg : Small g) (l : List Part) (way : List Step) (hl : l.length < 1099511627776) : Puv 18 [g.av, parts l, steps way] (.tup [.bool (matchR g l way).1, .int .i64 (matchR g l way).2]) := by
  refine pv ok18 (by simp [AV.clL, cl_graph, cl_parts, cl_steps]) rfl fun h => ?_
  have hf := FormatQ_ok l hl
  have hgt := Get_ok g hg way
  unfold parts at hf
  unfold Graph.av Graph.cells steps at hgt
  generalize hR : matchR g l way = r
  by_cases c1 : fmtE l = 0
  · rw [c1] at hf
    by_cases c2 : (getR g way).2 = 0
    · rw [c2] at hgt
      obtain ⟨hl32, -⟩ := fmtE_zero c1
      have hlw : way.length ≤ 64 := by
        unfold getR at c2
        split at c2
        · rename_i h1; exact (pathE_zero h1.1).1
        · cases c2
      have eR : r = ((goR g l way way.length).testBit l.length, 0) := by rw [← hR]; simp [matchR, c1, c2]
      clear hR
      have e1 : (goR g l way way.length).testBit l.length = r.1 := by rw [eR]
      have e2 : r.2 = 0 := by rw [eR]
      clear eR
      have hbg := fun h2 (L : Nat) (hm : IsM h2 L g l) => begin_ok h2 L g l hm hl32
      repeat' (first | (simp (disch := omega) [go_sem, S18, parts, steps, Graph.av, Graph.cells, *]) | (omega) | (with_reducible refine Br_dec (fun hp => ?_) (fun hp => ?_)) | (with_reducible refine Br_not ?_) | (with_reducible refine Br_bool (fun hp => ?_) (fun hp => ?_)) | (with_reducible refine bG_dec (fun hp => ?_) (fun hp => ?_)) | (with_reducible refine bG_bool' (fun hp => ?_) (fun hp => ?_)) | (refine bC_pure hf fun v hv => ?_; obtain ⟨t, rfl⟩ := hv) | (refine bC_v hgt ?_) | (refine bC_spec (hbg _ _ ⟨[], 90, some 0, by simp (disch := omega) [go_sem, parts], by simp [go_sem]⟩) fun v h2 hv => ?_; obtain ⟨rfl, hk⟩ := hv; have k1 := hk.1; have k2 := hk.2; clear hk; simp only [go_sem] at k1) | ((with_reducible refine Go_regD _ _ ?hn ?_); case hn => rfl) | ((with_reducible refine Go_regN _ _ ?hn ?_); case hn => rfl) | (with_reducible refine dE_some ?_ ?_) | (with_reducible refine dN_some ?_ ?_) | (with_reducible refine dN_some' ?_ ?_) | ((with_reducible refine Rd_dG ?hn _ _ _ _ _ ?_); case hn => rfl) | (with_reducible refine dG_dec (fun hp => ?_) (fun hp => ?_)) | (with_reducible refine dG_bool' (fun hp => ?_) (fun hp => ?_)) | (with_reducible refine Rd_nil' ?_))
      refine Go_loop (fun m e h1 => ∃ j : Nat, m = way.length - j ∧ j ≤ way.length ∧ e.get 42 = .int .i64 j ∧ e.get 41 = .int .i64 way.length ∧ e.get 40 = .fsl false 3 (way.map Step.av) ∧ e.get 13 = .int .u64 (goR g l way j) ∧ e.get 12 = .ptr (h.next + 1) 0 ∧ e.get 2 = .fsl false 3 (way.map Step.av) ∧ e.get 3 = .ptr h.next 0 ∧ IsM h1 (h.next + 1) g l ∧ h1.get h.next = some (.cells g.cells 24 (some 0)) ∧ h.next + 1 < h1.next) (n := way.length) ?_ ?_
      · refine ⟨0, by omega, by omega, ?_, ?_, ?_, ?_, ?_, ?_, ?_, ?_, ?_, ?_⟩
        · simp [go_sem]
        · simp [go_sem]
        · simp [go_sem]
        · simp [go_sem, goR]
        · simp [go_sem]
        · simp [go_sem]
        · simp [go_sem]
        · exact ⟨[], 90, some 0, by rw [k2 _ (by simp [go_sem])]; simp (disch := omega) [go_sem, parts], by omega⟩
        · rw [k2 _ (by simp [go_sem] <;> omega)]
          simp (disch := omega) [go_sem, Graph.cells]
        · omega
      · rintro m e h1 ⟨j, rfl, hj, q42, q41, q40, q13, q12, q2, q3, hmm, hgg, hn1⟩ Q hQ
        by_cases hlt : j < way.length
        · have hx : way[j]? = some way[j] := List.getElem?_eq_getElem hlt
          have hQ' : ∀ e' h', e'.get 42 = .int .i64 ((j : Int) + 1) → e'.get 41 = .int .i64 way.length → e'.get 40 = .fsl false 3 (way.map Step.av) → e'.get 13 = .int .u64 (stepR g l (goR g l way j) way[j] (getR g (way.take (j + 1))).1) → e'.get 12 = .ptr (h.next + 1) 0 → e'.get 2 = .fsl false 3 (way.map Step.av) → e'.get 3 = .ptr h.next 0 → Kept h1 h' → Q e' h' :=
            fun e' h' r1 r2 r3 r4 r5 r6 r7 r8 => hQ (way.length - (j + 1)) e' h' (by omega) ⟨j + 1, rfl, by omega, r1, r2, r3, by rw [r4]; simp only [goR, hx], r5, r6, r7, hmm.same r8.1 r8.2, by rw [r8.2 _ (by omega)]; exact hgg, by have := r8.1; omega⟩
          have hgj := Get_ok g hg (way.take (j + 1))
          have hgb := goR_bound g l way j
          have hst := fun (h2 : H) (k : Kept h1 h2) => step_ok h2 (h.next + 1) g l (goR g l way j) way[j] (getR g (way.take (j + 1))).1 hg (hmm.same k.1 k.2) hl32 hgb
          have hj1 : ((j : Int) + 1).toNat = j + 1 := by omega
          unfold Graph.av Graph.cells steps at hgj
          unfold Step.av Step.cells at hst
          unfold Graph.cells at hgg
          generalize goR g l way j = b0 at *
          rw [List.map_take] at hgj
          generalize getR g (way.take (j + 1)) = gj at *
          generalize stepR g l b0 way[j] gj.1 = b1 at *
          clear hQ k1 k2
          repeat' (first | (simp (disch := omega) [go_sem, S18, steps, Graph.av, Graph.cells, Step.av, Step.cells, *]) | (omega) | (with_reducible refine Br_dec (fun hp => ?_) (fun hp => ?_)) | (with_reducible refine Br_not ?_) | (with_reducible refine Br_bool (fun hp => ?_) (fun hp => ?_)) | (with_reducible refine bG_dec (fun hp => ?_) (fun hp => ?_)) | (with_reducible refine bG_bool' (fun hp => ?_) (fun hp => ?_)) | (refine bC_v hgj ?_) | (refine dC_v hgj ?_) | (refine bC_spec (hst _ ⟨by simp [go_sem] <;> omega, fun j hj => by simp (disch := omega) [go_sem]⟩) fun v h2 hv => ?_; obtain ⟨rfl, hk⟩ := hv; have k1 := hk.1; have k2 := hk.2; clear hk; simp only [go_sem] at k1) | ((with_reducible refine Go_regD _ _ ?hn ?_); case hn => rfl) | ((with_reducible refine Go_regN _ _ ?hn ?_); case hn => rfl) | (with_reducible refine dE_some ?_ ?_) | (with_reducible refine dN_some ?_ ?_) | (with_reducible refine dN_some' ?_ ?_) | ((with_reducible refine Rd_dG ?hn _ _ _ _ _ ?_); case hn => rfl) | (with_reducible refine dG_dec (fun hp => ?_) (fun hp => ?_)) | (with_reducible refine dG_bool' (fun hp => ?_) (fun hp => ?_)) | (with_reducible refine Rd_nil' ?_))
          refine hQ' _ _ ?_ ?_ ?_ ?_ ?_ ?_ ?_ ⟨by omega, fun j hj => by rw [k2 j (by simp [go_sem]; omega)]; simp (disch := omega) [go_sem]⟩ <;> simp (disch := omega) [go_sem, *]
        · have hje : j = way.length := by omega
          subst hje
          have hal := all_ok h1 (h.next + 1) g l _ hmm hl32 (goR_bound g l way way.length)
          clear hQ k1 k2
          generalize (goR g l way way.length).testBit l.length = bb at *
          repeat' (first | (simp (disch := omega) [go_sem, S18, steps, Graph.av, Graph.cells, Step.av, Step.cells, *]) | (omega) | (with_reducible refine Br_dec (fun hp => ?_) (fun hp => ?_)) | (with_reducible refine Br_not ?_) | (with_reducible refine Br_bool (fun hp => ?_) (fun hp => ?_)) | (with_reducible refine bG_dec (fun hp => ?_) (fun hp => ?_)) | (with_reducible refine bG_bool' (fun hp => ?_) (fun hp => ?_)) | (refine bC_spec hal fun v h2 hv => ?_; obtain ⟨rfl, hh⟩ := hv) | ((with_reducible refine Go_regD _ _ ?hn ?_); case hn => rfl) | ((with_reducible refine Go_regN _ _ ?hn ?_); case hn => rfl) | (with_reducible refine dE_some ?_ ?_) | (with_reducible refine dN_some ?_ ?_) | (with_reducible refine dN_some' ?_ ?_) | ((with_reducible refine Rd_dG ?hn _ _ _ _ _ ?_); case hn => rfl) | (with_reducible refine dG_dec (fun hp => ?_) (fun hp => ?_)) | (with_reducible refine dG_bool' (fun hp => ?_) (fun hp => ?_)) | (with_reducible refine Rd_nil' ?_))
    · have e : r = (false, (getR g way).2) := by rw [← hR]; simp [matchR, c1, c2]
      clear hR
      repeat' (first | (simp (disch := omega) [go_sem, S18, parts, steps, Graph.av, Graph.cells, *]) | (omega) | (with_reducible refine Br_dec (fun hp => ?_) (fun hp => ?_)) | (with_reducible refine Br_not ?_) | (with_reducible refine Br_bool (fun hp => ?_) (fun hp => ?_)) | (with_reducible refine bG_dec (fun hp => ?_) (fun hp => ?_)) | (with_reducible refine bG_bool' (fun hp => ?_) (fun hp => ?_)) | (refine bC_pure hf fun v hv => ?_; obtain ⟨t, rfl⟩ := hv) | (refine bC_v hgt ?_) | ((with_reducible refine Go_regD _ _ ?hn ?_); case hn => rfl) | ((with_reducible refine Go_regN _ _ ?hn ?_); case hn => rfl) | (with_reducible refine dE_some ?_ ?_) | (with_reducible refine dN_some ?_ ?_) | (with_reducible refine dN_some' ?_ ?_) | ((with_reducible refine Rd_dG ?hn _ _ _ _ _ ?_); case hn => rfl) | (with_reducible refine dG_dec (fun hp => ?_) (fun hp => ?_)) | (with_reducible refine dG_bool' (fun hp => ?_) (fun hp => ?_)) | (with_reducible refine Rd_nil' ?_))
  · have e : r = (false, 1) := by rw [← hR]; simp [matchR, c1]
    repeat' (first | (simp (disch := omega) [go_sem, S18, parts, steps, Graph.av, Graph.cells, *]) | (omega) | (with_reducible refine Br_dec (fun hp => ?_) (fun hp => ?_)) | (with_reducible refine Br_not ?_) | (with_reducible refine Br_bool (fun hp => ?_) (fun hp => ?_)) | (with_reducible refine bG_dec (fun hp => ?_) (fun hp => ?_)) | (with_reducible refine bG_bool' (fun hp => ?_) (fun hp => ?_)) | (refine bC_pure hf fun v hv => ?_; obtain ⟨t, rfl⟩ := hv) | (refine bC_v hgt ?_) | ((with_reducible refine Go_regD _ _ ?hn ?_); case hn => rfl) | ((with_reducible refine Go_regN _ _ ?hn ?_); case hn => rfl) | (with_reducible refine dE_some ?_ ?_) | (with_reducible refine dN_some ?_ ?_) | (with_reducible refine dN_some' ?_ ?_) | ((with_reducible refine Rd_dG ?hn _ _ _ _ _ ?_); case hn => rfl) | (with_reducible refine dG_dec (fun hp => ?_) (fun hp => ?_)) | (with_reducible refine dG_bool' (fun hp => ?_) (fun hp => ?_)) | (with_reducible refine Rd_nil' ?_))
end Go.Eng.Tryz
set_option maxRecDepth 20000
set_option maxHeartbeats 1000000
namespace Go.Eng
theorem Els.src {B : Nat} {h : H} {v : AV} {sz : Nat} {t : TypeId} {es : List AV} (hs : Els B h v sz t es) : srcOf h sz v = some (es.length, es.flatMap AV.cells) := by
  rcases hs with ⟨h1, ⟨rfl, rfl⟩ | ⟨l, rfl, h2, h3, h4, h5⟩⟩
  · rfl
  · rw [srcOf_sl, h5]
    exact srcO_all _ _ _ _ _ (flat_length h1)
section
variable {h : H}
@[go_sem] theorem evBin_slc_nn : evBin h .eql .slc .nils .nils = some (.bool true) := nr rfl
@[go_sem] theorem evBin_slc_sn (l o z n c : Nat) (x : Bool) : evBin h .eql .slc (.sl l o z n c x) .nils = some (.bool false) := nr rfl
end
theorem evApp_empty {U : List (TypeId × TypeId)} {h : H} {sz bytes m E : Nat} {t : TypeId} {cs : List AV} (hm : m ≠ 0) (hr : m * bytes ≤ 140737488355328) (hE : h.get E = some (.cells [] t (some 0))) :
    evApp U sz bytes t (.sl E 0 sz 0 0 true) m cs h = some (.sl h.next 0 sz m m false, h.add h.next (.cells cs t (some 0))) := by
  have hs : sub ([] : List AV) 0 (0 * sz) = some [] := by simp [sub]
  have hr' : m * bytes ≤ roomB := by unfold roomB; exact hr
  have h0 : ¬ m ≤ 0 := by omega
  unfold evApp
  simp only [hm, if_false, Nat.zero_add, hr', and_self, if_true, hE, h0, hs, List.nil_append]
  rfl
end Go.Eng
namespace Go.Eng.Tryz
open Go.Eng Go.Proofs Go.RowKit
theorem okE_step (x : Step) : okE 3 x.av := okE_agg rfl (by decide) (by simp [Step.cells, AV.leaf])
theorem okE_steps (l : List Step) : ∀ x ∈ l.map Step.av, okE 3 x := fun x hx => by
  obtain ⟨n, _, rfl⟩ := List.mem_map.1 hx
  exact okE_step n
/-! ### slices.Clone -/
theorem Clone_ok (h : H) (B : Nat) (v : AV) (way : List Step) (hE : Els B h v 3 85 (way.map Step.av)) (hl : way.length ≤ 64) :
    Spc 115 [v] h fun r h' => Kept h h' ∧ Els h.next h' r 3 85 (way.map Step.av) := by
  refine sg ok115 rfl ?_
  have hsrc := hE.src
  rcases hE with ⟨h1, ⟨rfl, h2⟩ | ⟨l, rfl, h2, h3, h4, h5⟩⟩
  · rw [h2]
    repeat' (first | (simp (disch := omega) [go_sem, S115, *]) | (omega) | (with_reducible refine Br_dec (fun hp => ?_) (fun hp => ?_)) | (with_reducible refine Br_not ?_) | (with_reducible refine Br_bool (fun hp => ?_) (fun hp => ?_)) | (with_reducible refine bG_dec (fun hp => ?_) (fun hp => ?_)) | (with_reducible refine bG_bool' (fun hp => ?_) (fun hp => ?_)) | ((with_reducible refine Go_regD _ _ ?hn ?_); case hn => rfl) | ((with_reducible refine Go_regN _ _ ?hn ?_); case hn => rfl) | (with_reducible refine dE_some ?_ ?_) | (with_reducible refine dN_some ?_ ?_) | (with_reducible refine dN_some' ?_ ?_) | ((with_reducible refine Rd_dG ?hn _ _ _ _ _ ?_); case hn => rfl) | (with_reducible refine dG_dec (fun hp => ?_) (fun hp => ?_)) | (with_reducible refine dG_bool' (fun hp => ?_) (fun hp => ?_)) | (with_reducible refine Rd_nil' ?_))
    exact ⟨⟨Nat.le_refl _, fun _ _ => rfl⟩, Els.nil _ _ _ _⟩
  · have hne : way.length ≠ 0 := by
      intro h0
      exact h4 (by rw [List.length_eq_zero_iff.1 h0]; rfl)
    have hb : way.length * 32 ≤ 140737488355328 := by omega
    have hlen : (way.map Step.av).length = way.length := by simp
    rw [hlen] at hsrc ⊢
    have hap := evApp_empty (U := U0) (h := h.add h.next (.cells [] 85 (some 0))) (sz := 3) (bytes := 32) (E := h.next) (t := 85) (cs := (way.map Step.av).flatMap AV.cells) hne hb (by simp (disch := omega) [go_sem])
    rw [srcOf_sl, h5] at hsrc
    generalize hcs : (way.map Step.av).flatMap AV.cells = cs at hsrc h5 hap
    repeat' (first | (simp (disch := omega) [go_sem, S115, *]) | (omega) | (with_reducible refine Br_dec (fun hp => ?_) (fun hp => ?_)) | (with_reducible refine Br_not ?_) | (with_reducible refine Br_bool (fun hp => ?_) (fun hp => ?_)) | (with_reducible refine bG_dec (fun hp => ?_) (fun hp => ?_)) | (with_reducible refine bG_bool' (fun hp => ?_) (fun hp => ?_)) | ((with_reducible refine Go_regD _ _ ?hn ?_); case hn => rfl) | ((with_reducible refine Go_regN _ _ ?hn ?_); case hn => rfl) | (with_reducible refine dE_some ?_ ?_) | (with_reducible refine dN_some ?_ ?_) | (with_reducible refine dN_some' ?_ ?_) | ((with_reducible refine Rd_dG ?hn _ _ _ _ _ ?_); case hn => rfl) | (with_reducible refine dG_dec (fun hp => ?_) (fun hp => ?_)) | (with_reducible refine dG_bool' (fun hp => ?_) (fun hp => ?_)) | (with_reducible refine Rd_nil' ?_))
    exact ⟨⟨by simp [go_sem] <;> omega, fun j hj => by simp (disch := omega) [go_sem]⟩, h1, .inr ⟨h.next + 1, by simp, by omega, by simp [go_sem], h4, by simp (disch := omega) [go_sem]; exact hcs.symm⟩⟩
/-! ### what is found -/
abbrev FS := Int × List (List Step)
def topF (l : List Part) (way : List Step) (bits : Nat) (s : FS) : FS := (s.1 - 1, if ¬ s.1 - 1 < 0 ∧ bits.testBit l.length = true then s.2 ++ [way] else s.2)
def kidW (g : Graph) (n : Node) (i : Nat) : Option Step :=
  if n.kind = 6 then (if i % 2 = 0 then none else match g.nodes[(n.kids.getD (i - 1) 0).toNat]? with
    | some k => if k.kind = 4 ∧ k.text.length ≤ 256 then some ⟨k.text, 0, false⟩ else none
    | none => none)
  else some ⟨[], i, true⟩
def kidF (rec : Int → List Step → Nat → FS → FS) (g : Graph) (l : List Part) (n : Node) (way : List Step) (bits : Nat) (met : List Bool) (i : Nat) (k : Int) (s : FS) : FS :=
  match kidW g n i with
  | none => s
  | some w => if met.getD k.toNat false = false ∧ 0 ≤ s.1 then rec k (way ++ [w]) (stepR g l bits w k) s else s
def kidsF (rec : Int → List Step → Nat → FS → FS) (g : Graph) (l : List Part) (n : Node) (way : List Step) (bits : Nat) (met : List Bool) : List Int → Nat → FS → FS
  | [], _, s => s
  | k :: ks, i, s => kidsF rec g l n way bits met ks (i + 1) (kidF rec g l n way bits met i k s)
def toF (g : Graph) (l : List Part) : Nat → Int → List Step → Nat → List Bool → FS → FS
  | 0, _, way, bits, _, s => topF l way bits s
  | f + 1, a, way, bits, met, s =>
    if (topF l way bits s).1 < 0 ∨ bits = 0 then topF l way bits s
    else match g.nodes[a.toNat]? with
      | none => topF l way bits s
      | some n => kidsF (fun k w b s => toF g l f k w b (met.set a.toNat true) s) g l n way bits (met.set a.toNat true) n.kids 0 (topF l way bits s)
/-! ### the finder's memory -/
def isOut (ov : AV) (j : Nat) : Prop := match ov with
  | .sl l _ _ _ _ _ => j = l
  | _ => False
def OutR (B : Nat) (h : H) (ov : AV) (out : List (List Step)) : Prop :=
  (ov = .nils ∧ out = []) ∨ ∃ l vs, ov = .sl l 0 1 out.length out.length false ∧ B ≤ l ∧ l < h.next ∧ out ≠ [] ∧ h.get l = some (.cells vs 36 (some 0)) ∧ vs.length = out.length ∧ ∀ (k : Nat) (v : AV) (w : List Step), vs[k]? = some v → out[k]? = some w → ((v = .nils ∧ w = []) ∨ ∃ l', v = .sl l' 0 3 w.length w.length false ∧ B ≤ l' ∧ l' < l ∧ w ≠ [] ∧ h.get l' = some (.cells ((w.map Step.av).flatMap AV.cells) 85 (some 0)))
theorem OutR.same {B : Nat} {h h' : H} {ov : AV} {out : List (List Step)} (ho : OutR B h ov out) (hn : h.next ≤ h'.next) (hg : ∀ j, B ≤ j → j < h.next → h'.get j = h.get j) : OutR B h' ov out := by
  refine ho.imp id ?_
  rintro ⟨l, vs, h1, h2, h3, h4, h5, h6, h7⟩
  refine ⟨l, vs, h1, h2, by omega, h4, by rw [hg l h2 h3]; exact h5, h6, fun k v w hv hw => ?_⟩
  refine (h7 k v w hv hw).imp id ?_
  rintro ⟨l', k1, k2, k3, k4, k5⟩
  exact ⟨l', k1, k2, k3, k4, by rw [hg l' k2 (by omega)]; exact k5⟩
theorem OutR.app {B B2 : Nat} {h : H} {ov v : AV} {out : List (List Step)} {w : List Step} (ho : OutR B h ov out) (hv : Els B2 h v 3 85 (w.map Step.av)) (hlt : ∀ j, isOut ov j → j < B2) (hB : B ≤ B2) (hB2 : B2 ≤ h.next) (hr : (out.length + 1) * 24 ≤ 140737488355328) :
    ∃ ov' h', evApp U0 1 24 36 ov 1 [v] h = some (ov', h') ∧ h.next ≤ h'.next ∧ (∀ j, j < h.next → ¬ isOut ov j → h'.get j = h.get j) ∧ (∀ j, j < h.next → ¬ isOut ov' j) ∧ OutR B h' ov' (out ++ [w]) ∧ ov'.leaf = true ∧ ov'.elt = true ∧ ov'.cells = [ov'] := by
  have hvv : (v = .nils ∧ w = []) ∨ ∃ l', v = .sl l' 0 3 w.length w.length false ∧ B2 ≤ l' ∧ l' < h.next ∧ w ≠ [] ∧ h.get l' = some (.cells ((w.map Step.av).flatMap AV.cells) 85 (some 0)) := by
    rcases hv.2 with ⟨h1, h2⟩ | ⟨l', h1, h2, h3, h4, h5⟩
    · exact .inl ⟨h1, by simpa using h2⟩
    · exact .inr ⟨l', by simpa using h1, h2, h3, by simpa using h4, h5⟩
  rcases ho with ⟨rfl, rfl⟩ | ⟨l, vs, rfl, h2, h3, h4, h5, h6, h7⟩
  · refine ⟨.sl h.next 0 1 1 1 false, h.add h.next (.cells [v] 36 (some 0)), ?_, by simp [go_sem], fun j hj _ => by simp (disch := omega) [go_sem], fun j hj hc => by simp only [isOut] at hc; omega, .inr ⟨h.next, [v], rfl, by omega, by simp [go_sem], by simp, by simp (disch := omega) [go_sem], rfl, fun k v' w' hk hw => ?_⟩, rfl, rfl, rfl⟩
    · unfold evApp
      rfl
    · cases k with
      | zero =>
        simp only [List.nil_append, at_zero, Option.some.injEq] at hk hw
        subst hk; subst hw
        refine hvv.imp id ?_
        rintro ⟨l', k1, k2, k3, k4, k5⟩
        exact ⟨l', k1, by omega, k3, k4, by simp (disch := omega) [go_sem]; exact k5⟩
      | succ k => simp at hk
  · have hl2 := hlt l rfl
    have hsub : sub vs 0 (out.length * 1) = some vs := by simp [sub, ← h6]
    refine ⟨.sl h.next 0 1 (out.length + 1) (out.length + 1) false, (h.del l).add h.next (.cells (vs ++ [v]) 36 (some 0)), ?_, by simp [go_sem], fun j hj hn => ?_, fun j hj hc => by simp only [isOut] at hc; omega, .inr ⟨h.next, vs ++ [v], by simp, by omega, by simp [go_sem], by simp, by simp (disch := omega) [go_sem], by simp [h6], fun k v' w' hk hw => ?_⟩, rfl, rfl, rfl⟩
    · have hr' : (out.length + 1) * 24 ≤ roomB := by unfold roomB; exact hr
      unfold evApp
      simp only [hr', and_self, if_true, h5, hsub]
      rw [if_neg (by decide), if_neg (by omega)]
      simp [go_sem]
    · simp only [isOut] at hn
      simp (disch := omega) [go_sem]
    · by_cases hkl : k < out.length
      · rw [List.getElem?_append_left (by omega)] at hk hw
        refine (h7 k v' w' hk hw).imp id ?_
        rintro ⟨l', k1, k2, k3, k4, k5⟩
        exact ⟨l', k1, k2, by omega, k4, by simp (disch := omega) [go_sem]; exact k5⟩
      · have hke : k = out.length := by
          have := (List.getElem?_eq_some_iff.1 hw).1
          simp at this; omega
        subst hke
        rw [List.getElem?_append_right (by omega)] at hk hw
        simp [h6] at hk hw
        subst hk; subst hw
        refine hvv.imp id ?_
        rintro ⟨l', k1, k2, k3, k4, k5⟩
        exact ⟨l', k1, by omega, k3, k4, by simp (disch := omega) [go_sem]; exact k5⟩
def IsF (h : H) (L M : Nat) (g : Graph) (l : List Part) (ov : AV) (left : Int) (met : List Bool) : Prop :=
  h.get L = some (.cells [.fsl false 3 (g.nodes.map Node.av), .int .i64 g.root, parts l, ov, .int .i64 left, .sl M 0 1 met.length met.length true] 103 (some 0)) ∧ h.get M = some (.cells (met.map AV.bool) 4 (some 0)) ∧ L < h.next ∧ M < L
def KeepF (L M : Nat) (h : H) (ov : AV) (h' : H) (ov' : AV) : Prop := h.next ≤ h'.next ∧ (∀ j, j < h.next → ¬ j = L → ¬ j = M → ¬ isOut ov j → h'.get j = h.get j) ∧ (∀ j, j < h.next → isOut ov' j → isOut ov j)
theorem KeepF.trans {L M : Nat} {h h1 h2 : H} {o o1 o2 : AV} (a : KeepF L M h o h1 o1) (b : KeepF L M h1 o1 h2 o2) : KeepF L M h o h2 o2 :=
  ⟨by have := a.1; have := b.1; omega, fun j hj h1 h2 h3 => by rw [b.2.1 j (by have := a.1; omega) h1 h2 (fun hc => h3 (a.2.2 j hj hc)), a.2.1 j hj h1 h2 h3], fun j hj hc => a.2.2 j hj (b.2.2 j (by have := a.1; omega) hc)⟩
end Go.Eng.Tryz
set_option maxRecDepth 20000
set_option maxHeartbeats 1000000
namespace Go.Eng
section
variable {P : Program} {U : List (TypeId × TypeId)} {G : Nat → AV} {rs : List RV} {Ψ : AV → H → Prop} {e : Env} {lv : List Nat} {k : List Fr} {B : Nat} {dl : List (Nat × O × Nat)} {ps : List Pd}
theorem dE_eq {h0 h : H} {r : Option (AV × H)} {v : AV} {m : Nat} {d : Option Nat} (he : r = some (v, h)) (h1 : okAll U G h m ps) (hk : Rd P U G rs Ψ B dl (still m ps) (e.put d v) h lv k) : dE P U G rs Ψ B h0 r m d dl ps e lv k := by
  subst he
  exact dE_some h1 hk
end
end Go.Eng
namespace Go.Eng.Tryz
open Go.Eng Go.Proofs Go.RowKit
theorem Go_cut {rs : List RV} {Ψ : AV → H → Prop} {e : Env} {h : H} {k : List Fr} {a b : S} (I : Env → H → Prop) (ha : ∀ Q : Env → H → Prop, (∀ e h, I e h → Q e h) → Go Go.Proofs.Tryz.prog U0 G0 rs Ψ a e h (.lp Q :: k)) (hb : ∀ e h, I e h → Go Go.Proofs.Tryz.prog U0 G0 rs Ψ b e h k) : Go Go.Proofs.Tryz.prog U0 G0 rs Ψ (.seq a b) e h k := by
  have h1 := ha (fun e h => Go Go.Proofs.Tryz.prog U0 G0 rs Ψ b e h k) hb
  unfold Go at h1 ⊢
  simp only [W]
  refine (congrArg (W (Spec Go.Proofs.Tryz.prog U0 G0) U0 G0 a e h) ?_).mpr h1
  funext x e h
  cases x <;> rfl
theorem IsF.isM {h : H} {L M : Nat} {g : Graph} {l : List Part} {ov : AV} {left : Int} {met : List Bool} (hf : IsF h L M g l ov left met) : IsM h L g l := ⟨_, _, _, hf.1, hf.2.2.1⟩
def ToF (g : Graph) (l : List Part) (L M : Nat) (met : List Bool) (h : H) (ov : AV) (s : FS) (h' : H) : Prop :=
  ∃ ov', IsF h' L M g l ov' s.1 met ∧ OutR (L + 1) h' ov' s.2 ∧ KeepF L M h ov h' ov' ∧ (s.2.length : Int) + s.1 ≤ 4096
theorem out_leaf {B : Nat} {h : H} {ov : AV} {out : List (List Step)} (ho : OutR B h ov out) : ov.leaf = true ∧ ov.elt = true ∧ ov.cells = [ov] := by
  rcases ho with ⟨rfl, _⟩ | ⟨l, vs, rfl, _⟩ <;> exact ⟨rfl, rfl, rfl⟩
theorem out_lt {B : Nat} {h : H} {ov : AV} {out : List (List Step)} (ho : OutR B h ov out) : ∀ j, isOut ov j → B ≤ j ∧ j < h.next := by
  rcases ho with ⟨rfl, _⟩ | ⟨l, vs, rfl, h2, h3, _⟩
  · intro j hj; exact hj.elim
  · intro j hj; simp only [isOut] at hj; omega
theorem Els.lenAll {B : Nat} {h : H} {v : AV} {sz : Nat} {t : TypeId} {es : List AV} (hs : Els B h v sz t es) : ∀ h' : H, lenV 1 h' v = some (.int .i64 es.length) := by
  rcases hs with ⟨h1, ⟨rfl, rfl⟩ | ⟨l, rfl, h2, h3, h4, h5⟩⟩ <;> exact fun _ => rfl
theorem Els.own {B : Nat} {h h' : H} {v : AV} {sz : Nat} {t : TypeId} {es : List AV} (hs : Els B h v sz t es) (hn : h.next ≤ h'.next) (hg : ∀ j, B ≤ j → j < h.next → isOut v j → h'.get j = h.get j) : Els B h' v sz t es := by
  refine ⟨hs.1, hs.2.imp id ?_⟩
  rintro ⟨l, h1, h2, h3, h4, h5⟩
  exact ⟨l, h1, h2, by omega, h4, by rw [hg l h2 h3 (by rw [h1]; rfl)]; exact h5⟩
theorem Els.lt {B : Nat} {h : H} {v : AV} {sz : Nat} {t : TypeId} {es : List AV} (hs : Els B h v sz t es) : ∀ j, isOut v j → B ≤ j ∧ j < h.next := by
  rcases hs with ⟨h1, ⟨rfl, rfl⟩ | ⟨l, rfl, h2, h3, h4, h5⟩⟩
  · intro j hj; exact hj.elim
  · intro j hj; simp only [isOut] at hj; omega
structure KidI (g : Graph) (l : List Part) (L M : Nat) (h : H) (ov : AV) (way : List Step) (wv : AV) (met1 : List Bool) (n : Node) (N : Nat) (S : FS) (h4 : H) (ov4 : AV) : Prop where
  isF : IsF h4 L M g l ov4 S.1 met1
  out : OutR (L + 1) h4 ov4 S.2
  keep : KeepF L M h ov h4 ov4
  sum : (S.2.length : Int) + S.1 ≤ 4096
  els : Els (L + 1) h4 wv 3 85 (way.map Step.av)
  na : ∀ j, isOut ov4 j → ¬ isOut wv j
  node : h4.get N = some (.cells n.cells 68 (some 0))
  lt : N < h4.next
  no : ¬ isOut ov4 N
theorem KidI.same {g : Graph} {l : List Part} {L M : Nat} {h : H} {ov : AV} {way : List Step} {wv : AV} {met1 : List Bool} {n : Node} {N : Nat} {S : FS} {h4 h5 : H} {ov4 : AV} (hI : KidI g l L M h ov way wv met1 n N S h4 ov4) (hn : h4.next ≤ h5.next) (hg : ∀ j, j < h4.next → h5.get j = h4.get j) : KidI g l L M h ov way wv met1 n N S h5 ov4 := by
  obtain ⟨f1, f2, f3, f4⟩ := hI.isF
  refine ⟨⟨by rw [hg L f3]; exact f1, by rw [hg M (by omega)]; exact f2, by omega, f4⟩, hI.out.same hn (fun j h1 h2 => hg j h2), hI.keep.trans ⟨hn, fun j h1 h2 h3 h4 => hg j h1, fun j h1 h2 => h2⟩, hI.sum, Els.same hI.els hn (fun j h1 h2 => hg j h2), hI.na, by rw [hg N hI.lt]; exact hI.node, by have := hI.lt; omega, hI.no⟩
theorem KidI.next {g : Graph} {l : List Part} {L M : Nat} {h : H} {ov : AV} {way : List Step} {wv : AV} {met1 : List Bool} {n : Node} {N : Nat} {S S' : FS} {h4 h5 : H} {ov4 ov5 : AV} (hI : KidI g l L M h ov way wv met1 n N S h4 ov4) (hLN : L < N) (hML : M < L)
    (hF : IsF h5 L M g l ov5 S'.1 met1) (hO : OutR (L + 1) h5 ov5 S'.2) (hK : KeepF L M h4 ov4 h5 ov5) (hs : (S'.2.length : Int) + S'.1 ≤ 4096) : KidI g l L M h ov way wv met1 n N S' h5 ov5 := by
  have hlt := Els.lt hI.els
  have hl := hI.lt
  obtain ⟨k1, k2, k3⟩ := hK
  refine ⟨hF, hO, hI.keep.trans ⟨k1, k2, k3⟩, hs, Els.own hI.els k1 (fun j q1 q2 q3 => k2 j q2 (by omega) (by omega) (fun hc => hI.na j hc q3)), fun j q1 q2 => hI.na j (k3 j (hlt j q2).2 q1) q2, ?_, by omega, fun hc => hI.no (k3 N hl hc)⟩
  rw [k2 N hl (by omega) (by omega) hI.no]
  exact hI.node
theorem cutN_full (k k' : IntKind) : cutN none (some (.int k 0)) (some (.int k' 0)) = some .nils := rfl
theorem cutO_full (l off sz n : Nat) (ex : Bool) (k k' : IntKind) (hn : n ≠ 0) : cutO l off sz n n ex none (some (.int k n)) (some (.int k' n)) = some (.sl l off sz n n true) := by
  simp [cutO, bound, hn]
theorem app_nil (t : TypeId) (cs : List AV) (h : H) : evApp U0 3 32 t .nils 1 cs h = some (.sl h.next 0 3 1 1 false, h.add h.next (.cells cs t (some 0))) := by
  unfold evApp
  rfl
theorem app_full (l n : Nat) (t : TypeId) (old cs : List AV) (h : H) (hn : n < 64) (ho : old.length = n * 3) (hg : h.get l = some (.cells old t (some 0))) : evApp U0 3 32 t (.sl l 0 3 n n true) 1 cs h = some (.sl h.next 0 3 (n + 1) (n + 1) false, h.add h.next (.cells (old ++ cs) t (some 0))) := by
  have hsub : sub old 0 (n * 3) = some old := by simp [sub, ← ho]
  have hr : (n + 1) * 32 ≤ roomB := by unfold roomB; omega
  unfold evApp
  simp only [hr, and_self, if_true, hg, hsub]
  rw [if_neg (by decide), if_neg (by omega)]
  rfl
def St (L : Nat) (a : Int) (wv : AV) (bits : Nat) (e : Env) : Prop := e.get 0 = .ptr L 0 ∧ e.get 1 = .int .i64 a ∧ e.get 2 = wv ∧ e.get 3 = .int .u64 bits
theorem toF_top (g : Graph) (l : List Part) {f : Nat} {a : Int} {way : List Step} {bits : Nat} {met : List Bool} {s : FS} (h : (topF l way bits s).1 < 0 ∨ bits = 0 ∨ f = 0) : toF g l f a way bits met s = topF l way bits s := by
  cases f with
  | zero => rfl
  | succ f =>
    unfold toF
    rw [if_pos]
    rcases h with h | h | h
    · exact .inl h
    · exact .inr h
    · omega
theorem find_to (g : Graph) (hg : Small g) (hright : rightR g = true) (l : List Part) (hl : l.length ≤ 32) (L M : Nat) : ∀ (f : Nat) (a : Int) (way : List Step) (wv : AV) (bits : Nat) (met : List Bool) (ov : AV) (s : FS) (h : H),
    0 ≤ a → a < g.nodes.length → f + way.length = 64 → bits < 2 ^ (l.length + 1) → g.nodes.length = met.length → met.getD a.toNat false = false → 0 ≤ s.1 → (s.2.length : Int) + s.1 ≤ 4096 → IsF h L M g l ov s.1 met → OutR (L + 1) h ov s.2 → Els (L + 1) h wv 3 85 (way.map Step.av) → (∀ j, isOut ov j → ¬ isOut wv j) →
    Spc 56 [.ptr L 0, .int .i64 a, wv, .int .u64 bits] h fun v h' => v = .tup [] ∧ ToF g l L M met h ov (toF g l f a way bits met s) h' := by
  intro f
  induction f using Nat.strongRecOn with
  | _ f ih =>
    intro a way wv bits met ov s h ha0 ha1 hfw hbits hmet hma hs0 hsum hF hO hW hna
    refine sg ok56 rfl ?_
    obtain ⟨g1, g2, g3, g4⟩ := hF
    obtain ⟨lf1, lf2, lf3⟩ := out_leaf hO
    have hwl := Els.lenAll hW
    unfold parts at g1
    by_cases c1 : s.1 - 1 < 0
    · have e : toF g l f a way bits met s = (s.1 - 1, s.2) := by
        have : topF l way bits s = (s.1 - 1, s.2) := by unfold topF; rw [if_neg (fun h => h.1 c1)]
        rw [toF_top g l (.inl (by rw [this]; exact c1)), this]
      rw [e]
      repeat' (first | (simp (disch := omega) [go_sem, S56, *]) | (omega) | (with_reducible refine Br_dec (fun hp => ?_) (fun hp => ?_)) | (with_reducible refine Br_not ?_) | (with_reducible refine Br_bool (fun hp => ?_) (fun hp => ?_)) | (with_reducible refine bG_dec (fun hp => ?_) (fun hp => ?_)) | (with_reducible refine bG_bool' (fun hp => ?_) (fun hp => ?_)) | ((with_reducible refine Go_regD _ _ ?hn ?_); case hn => rfl) | ((with_reducible refine Go_regN _ _ ?hn ?_); case hn => rfl) | (with_reducible refine dE_some ?_ ?_) | (with_reducible refine dN_some ?_ ?_) | (with_reducible refine dN_some' ?_ ?_) | ((with_reducible refine Rd_dG ?hn _ _ _ _ _ ?_); case hn => rfl) | (with_reducible refine dG_dec (fun hp => ?_) (fun hp => ?_)) | (with_reducible refine dG_bool' (fun hp => ?_) (fun hp => ?_)) | (with_reducible refine Rd_nil' ?_))
      refine ⟨ov, ⟨by simp (disch := omega) [go_sem, parts], by simp (disch := omega) [go_sem]; exact g2, by simp [go_sem]; exact g3, g4⟩, hO.same (by simp [go_sem]) (fun j h1 h2 => by simp (disch := omega) [go_sem]), ⟨by simp [go_sem], fun j h1 h2 h3 h4 => by simp (disch := omega) [go_sem], fun j h1 h2 => h2⟩, by simp only; omega⟩
    ·
      have hmg : h.get M = some (.cells (met.map AV.bool) 4 (some 0)) := g2
      obtain ⟨h1, hh1⟩ : ∃ h1, h1 = h.set L (.cells [.fsl false 3 (g.nodes.map Node.av), .int .i64 g.root, .fsl false 4 (l.map Part.av), ov, .int .i64 (s.1 - 1), .sl M 0 1 met.length met.length true] 103 (some 0)) := ⟨_, rfl⟩
      have hF1 : IsF h1 L M g l ov (s.1 - 1) met := ⟨by rw [hh1]; simp (disch := omega) [go_sem, parts], by rw [hh1]; simp (disch := omega) [go_sem]; exact g2, by rw [hh1]; exact g3, g4⟩
      have hO1 : OutR (L + 1) h1 ov s.2 := hO.same (by rw [hh1]; exact Nat.le_refl _) (fun j h1 h2 => by rw [hh1]; simp (disch := omega) [go_sem])
      have hW1 : Els (L + 1) h1 wv 3 85 (way.map Step.av) := hW.same (by rw [hh1]; exact Nat.le_refl _) (fun j h1 h2 => by rw [hh1]; simp (disch := omega) [go_sem])
      have hK1 : KeepF L M h ov h1 ov := ⟨by rw [hh1]; exact Nat.le_refl _, fun j h1 h2 h3 h4 => by rw [hh1]; simp (disch := omega) [go_sem], fun j h1 h2 => h2⟩
      have hal := all_ok h1 L g l bits hF1.isM hl hbits
      have g1' := hF1.1
      unfold parts at g1'
      show Go Go.Proofs.Tryz.prog U0 G0 [] _ S56 _ h []
      unfold S56
      refine Go_cut (fun e h' => St L a wv bits e ∧ h' = h1) (fun Q hQ => ?_) ?_
      · rw [hh1] at hQ
        clear hh1 hF1 hO1 hW1 hK1 hal g1'
        repeat' (first | (simp (disch := omega) [go_sem, *]) | (omega) | (with_reducible refine Br_dec (fun hp => ?_) (fun hp => ?_)) | (with_reducible refine Br_not ?_) | (with_reducible refine Br_bool (fun hp => ?_) (fun hp => ?_)) | (with_reducible refine bG_dec (fun hp => ?_) (fun hp => ?_)) | (with_reducible refine bG_bool' (fun hp => ?_) (fun hp => ?_)) | ((with_reducible refine Go_regD _ _ ?hn ?_); case hn => rfl) | ((with_reducible refine Go_regN _ _ ?hn ?_); case hn => rfl) | (with_reducible refine dE_some ?_ ?_) | (with_reducible refine dN_some ?_ ?_) | (with_reducible refine dN_some' ?_ ?_) | ((with_reducible refine Rd_dG ?hn _ _ _ _ _ ?_); case hn => rfl) | (with_reducible refine dG_dec (fun hp => ?_) (fun hp => ?_)) | (with_reducible refine dG_bool' (fun hp => ?_) (fun hp => ?_)) | (with_reducible refine Rd_nil' ?_))
        exact hQ _ _ ⟨⟨by simp [go_sem], by simp [go_sem], by simp [go_sem], by simp [go_sem]⟩, rfl⟩
      rintro e h' ⟨⟨q0, q1, q2, q3⟩, hh⟩
      subst h'
      clear g1 g2 hh1
      refine Go_cut (fun e h' => St L a wv bits e ∧ h' = h1) (fun Q hQ => ?_) ?_
      · repeat' (first | (simp (disch := omega) [go_sem, *]) | (omega) | (with_reducible refine Br_dec (fun hp => ?_) (fun hp => ?_)) | (with_reducible refine Br_not ?_) | (with_reducible refine Br_bool (fun hp => ?_) (fun hp => ?_)) | (with_reducible refine bG_dec (fun hp => ?_) (fun hp => ?_)) | (with_reducible refine bG_bool' (fun hp => ?_) (fun hp => ?_)) | ((with_reducible refine Go_regD _ _ ?hn ?_); case hn => rfl) | ((with_reducible refine Go_regN _ _ ?hn ?_); case hn => rfl) | (with_reducible refine dE_some ?_ ?_) | (with_reducible refine dN_some ?_ ?_) | (with_reducible refine dN_some' ?_ ?_) | ((with_reducible refine Rd_dG ?hn _ _ _ _ _ ?_); case hn => rfl) | (with_reducible refine dG_dec (fun hp => ?_) (fun hp => ?_)) | (with_reducible refine dG_bool' (fun hp => ?_) (fun hp => ?_)) | (with_reducible refine Rd_nil' ?_))
        exact hQ _ _ ⟨⟨by simp [go_sem, *], by simp [go_sem, *], by simp [go_sem, *], by simp [go_sem, *]⟩, rfl⟩
      clear q0 q1 q2 q3 e
      rintro e h' ⟨⟨q0, q1, q2, q3⟩, hh⟩
      subst h'
      refine Go_cut (fun e h' => St L a wv bits e ∧ ∃ ov2, IsF h' L M g l ov2 (topF l way bits s).1 met ∧ OutR (L + 1) h' ov2 (topF l way bits s).2 ∧ KeepF L M h ov h' ov2 ∧ Els (L + 1) h' wv 3 85 (way.map Step.av) ∧ (∀ j, isOut ov2 j → ¬ isOut wv j)) (fun Q hQ => ?_) ?_
      · cases hb : bits.testBit l.length with
        | false =>
          have e1 : topF l way bits s = (s.1 - 1, s.2) := by unfold topF; rw [if_neg (fun h => by rw [hb] at h; cases h.2)]
          rw [hb] at hal
          have hQ' : ∀ e, St L a wv bits e → Q e h1 := fun e he => hQ e h1 ⟨he, ov, by rw [e1]; exact hF1, by rw [e1]; exact hO1, hK1, hW1, hna⟩
          clear hQ hF1 hO1 hW1 hK1 hna
          repeat' (first | (simp (disch := omega) [go_sem, *]) | (omega) | (with_reducible refine Br_dec (fun hp => ?_) (fun hp => ?_)) | (with_reducible refine Br_not ?_) | (with_reducible refine Br_bool (fun hp => ?_) (fun hp => ?_)) | (with_reducible refine bG_dec (fun hp => ?_) (fun hp => ?_)) | (with_reducible refine bG_bool' (fun hp => ?_) (fun hp => ?_)) | (refine bC_spec hal fun v h2 hv => ?_; obtain ⟨rfl, hh⟩ := hv; subst h2) | ((with_reducible refine Go_regD _ _ ?hn ?_); case hn => rfl) | ((with_reducible refine Go_regN _ _ ?hn ?_); case hn => rfl) | (with_reducible refine dE_some ?_ ?_) | (with_reducible refine dN_some ?_ ?_) | (with_reducible refine dN_some' ?_ ?_) | ((with_reducible refine Rd_dG ?hn _ _ _ _ _ ?_); case hn => rfl) | (with_reducible refine dG_dec (fun hp => ?_) (fun hp => ?_)) | (with_reducible refine dG_bool' (fun hp => ?_) (fun hp => ?_)) | (with_reducible refine Rd_nil' ?_))
          exact hQ' _ ⟨by simp [go_sem, *], by simp [go_sem, *], by simp [go_sem, *], by simp [go_sem, *]⟩
        | true =>
          have e1 : topF l way bits s = (s.1 - 1, s.2 ++ [way]) := by unfold topF; rw [if_pos ⟨c1, hb⟩]
          rw [hb] at hal
          have hcl := Clone_ok h1 (L + 1) wv way hW1 (by omega)
          obtain ⟨r1, r2, r3, r4⟩ := hF1
          have hol := out_lt hO1
          rw [e1] at hQ
          clear hb e1
          have hW1' := hW1
          have hO1' := hO1
          clear hO1 hW1
          repeat' (first | (simp (disch := omega) [go_sem, *]) | (omega) | (with_reducible refine Br_dec (fun hp => ?_) (fun hp => ?_)) | (with_reducible refine Br_not ?_) | (with_reducible refine Br_bool (fun hp => ?_) (fun hp => ?_)) | (with_reducible refine bG_dec (fun hp => ?_) (fun hp => ?_)) | (with_reducible refine bG_bool' (fun hp => ?_) (fun hp => ?_)) | (refine bC_spec hal fun v h2 hv => ?_; obtain ⟨rfl, hh⟩ := hv; subst h2) | (refine dC_spec hcl fun v h2 hv => ?_; obtain ⟨hk, hv'⟩ := hv; have k1 := hk.1; have k2 := hk.2; have hL2 := (k2 L r3).trans g1'; obtain ⟨ve1, ve2, ve3⟩ := Els.elt hv'; obtain ⟨ov', h4, b1, b2, b3, b4, b5, b6, b7, b8⟩ := OutR.app (B := L + 1) (B2 := h1.next) (h := h2.add h2.next (.cells [v] 36 (some 0))) (ov := ov) (v := v) (w := way) ((hO1'.same k1 (fun j h1 h2 => k2 j h2)).same (by simp [go_sem]) (fun j h1 h2 => by simp (disch := omega) [go_sem])) (Els.same hv' (by simp [go_sem]) (fun j h1 h2 => by simp (disch := omega) [go_sem])) (fun j hj => (hol j hj).2) (by omega) (by simp [go_sem]; omega) (by omega); simp only [go_sem] at b2 b3 b4; have hL4 := (b3 L (by omega) (fun hc => by have := hol L hc; omega)).trans ((H.get_add_ne _ _ _ (by omega)).trans hL2)) | ((with_reducible refine Go_regD _ _ ?hn ?_); case hn => rfl) | ((with_reducible refine Go_regN _ _ ?hn ?_); case hn => rfl) | (with_reducible refine dE_some ?_ ?_) | (with_reducible refine dN_some ?_ ?_) | (with_reducible refine dN_some' ?_ ?_) | ((with_reducible refine Rd_dG ?hn _ _ _ _ _ ?_); case hn => rfl) | (with_reducible refine dG_dec (fun hp => ?_) (fun hp => ?_)) | (with_reducible refine dG_bool' (fun hp => ?_) (fun hp => ?_)) | (with_reducible refine Rd_nil' ?_))
          have b9 : ∀ j, j < h1.next → ¬ isOut ov j → h4.get j = h1.get j := fun j hj hn => by rw [b3 j (by omega) hn, H.get_add_ne _ _ _ (by omega), k2 j hj]
          have hwo := Els.lt hW1'
          refine hQ _ _ ⟨⟨by simp [go_sem], by simp [go_sem], by simp [go_sem], by simp [go_sem]⟩, ov', ⟨?_, ?_, ?_, r4⟩, ?_, ?_, ?_, ?_⟩
          · simp (disch := omega) [go_sem, parts]
          · rw [H.get_set_ne _ _ _ (by omega), b9 M (by omega) (fun hc => by have := hol M hc; omega)]; exact r2
          · simp only [go_sem]; omega
          · exact b5.same (by simp [go_sem]) (fun j h1 h2 => by simp (disch := omega) [go_sem])
          · exact hK1.trans ⟨by simp only [go_sem]; omega, fun j q1 q2 q3 q4 => by rw [H.get_set_ne _ _ _ q2, b9 j q1 q4], fun j q1 q2 => absurd q2 (b4 j (by omega))⟩
          · exact Els.own hW1' (by simp only [go_sem]; omega) (fun j q1 q2 q3 => by rw [H.get_set_ne _ _ _ (by omega), b9 j q2 (fun hc => hna j hc q3)])
          · exact fun j q1 q2 => b4 j (by have := hwo j q2; omega) q1
      clear q0 q1 q2 q3 e g1' hal hF1 hO1 hW1 hK1 hO hW hna h1
      rintro e h2 ⟨⟨q0, q1, q2, q3⟩, ov2, hF2, hO2, hK2, hW2, hna2⟩
      have hT1 : (topF l way bits s).1 = s.1 - 1 := rfl
      have hT2 : ((topF l way bits s).2.length : Int) + (topF l way bits s).1 ≤ 4096 := by
        unfold topF
        simp only
        split
        · simp only [List.length_append, List.length_singleton]; omega
        · omega
      obtain ⟨T, hT⟩ : ∃ T, topF l way bits s = T := ⟨_, rfl⟩
      have hwl2 : ∀ h' : H, lenV 1 h' wv = some (.int .i64 way.length) := fun h' => by rw [hwl h', List.length_map]
      clear hwl
      rw [hT] at hT1 hT2 hF2 hO2
      refine Go_cut (fun e h' => St L a wv bits e ∧ h' = h2 ∧ bits ≠ 0 ∧ f ≠ 0) (fun Q hQ => ?_) ?_
      · by_cases c2 : bits = 0 ∨ f = 0
        · have e1 : toF g l f a way bits met s = T := by rw [toF_top g l (.inr c2), hT]
          have fin : ToF g l L M met h ov (toF g l f a way bits met s) h2 := by rw [e1]; exact ⟨ov2, hF2, hO2, hK2, hT2⟩
          generalize toF g l f a way bits met s = R at *
          clear hQ hT hT1 e1 ih
          by_cases c3 : bits = 0
          · rw [c3] at q3
            clear c2 c3
            repeat' (first | (simp (disch := omega) [go_sem, *]) | (omega) | (with_reducible refine Br_dec (fun hp => ?_) (fun hp => ?_)) | (with_reducible refine Br_not ?_) | (with_reducible refine Br_bool (fun hp => ?_) (fun hp => ?_)) | (with_reducible refine bG_dec (fun hp => ?_) (fun hp => ?_)) | (with_reducible refine bG_bool' (fun hp => ?_) (fun hp => ?_)) | (exact fin) | ((with_reducible refine Go_regD _ _ ?hn ?_); case hn => rfl) | ((with_reducible refine Go_regN _ _ ?hn ?_); case hn => rfl) | (with_reducible refine dE_some ?_ ?_) | (with_reducible refine dN_some ?_ ?_) | (with_reducible refine dN_some' ?_ ?_) | ((with_reducible refine Rd_dG ?hn _ _ _ _ _ ?_); case hn => rfl) | (with_reducible refine dG_dec (fun hp => ?_) (fun hp => ?_)) | (with_reducible refine dG_bool' (fun hp => ?_) (fun hp => ?_)) | (with_reducible refine Rd_nil' ?_))
          · have c4 : (way.length : Int) = 64 := by omega
            have c5 : ¬ (bits : Int) = 0 := by omega
            clear c2 c3
            repeat' (first | (simp (disch := omega) [go_sem, *]) | (omega) | (with_reducible refine Br_dec (fun hp => ?_) (fun hp => ?_)) | (with_reducible refine Br_not ?_) | (with_reducible refine Br_bool (fun hp => ?_) (fun hp => ?_)) | (with_reducible refine bG_dec (fun hp => ?_) (fun hp => ?_)) | (with_reducible refine bG_bool' (fun hp => ?_) (fun hp => ?_)) | (exact fin) | ((with_reducible refine Go_regD _ _ ?hn ?_); case hn => rfl) | ((with_reducible refine Go_regN _ _ ?hn ?_); case hn => rfl) | (with_reducible refine dE_some ?_ ?_) | (with_reducible refine dN_some ?_ ?_) | (with_reducible refine dN_some' ?_ ?_) | ((with_reducible refine Rd_dG ?hn _ _ _ _ _ ?_); case hn => rfl) | (with_reducible refine dG_dec (fun hp => ?_) (fun hp => ?_)) | (with_reducible refine dG_bool' (fun hp => ?_) (fun hp => ?_)) | (with_reducible refine Rd_nil' ?_))
        · have c2' : bits ≠ 0 ∧ f ≠ 0 := ⟨fun h => c2 (.inl h), fun h => c2 (.inr h)⟩
          have c3 : ¬ (bits : Int) = 0 := by omega
          have hlw : ¬ (way.length : Int) = 64 := by omega
          have hQ' : ∀ e, St L a wv bits e → Q e h2 := fun e he => hQ e h2 ⟨he, rfl, c2'⟩
          clear hQ hT hT1 ih
          repeat' (first | (simp (disch := omega) [go_sem, *]) | (omega) | (with_reducible refine Br_dec (fun hp => ?_) (fun hp => ?_)) | (with_reducible refine Br_not ?_) | (with_reducible refine Br_bool (fun hp => ?_) (fun hp => ?_)) | (with_reducible refine bG_dec (fun hp => ?_) (fun hp => ?_)) | (with_reducible refine bG_bool' (fun hp => ?_) (fun hp => ?_)) | ((with_reducible refine Go_regD _ _ ?hn ?_); case hn => rfl) | ((with_reducible refine Go_regN _ _ ?hn ?_); case hn => rfl) | (with_reducible refine dE_some ?_ ?_) | (with_reducible refine dN_some ?_ ?_) | (with_reducible refine dN_some' ?_ ?_) | ((with_reducible refine Rd_dG ?hn _ _ _ _ _ ?_); case hn => rfl) | (with_reducible refine dG_dec (fun hp => ?_) (fun hp => ?_)) | (with_reducible refine dG_bool' (fun hp => ?_) (fun hp => ?_)) | (with_reducible refine Rd_nil' ?_))
          exact hQ' _ ⟨by simp [go_sem, *], by simp [go_sem, *], by simp [go_sem, *], by simp [go_sem, *]⟩
      clear q0 q1 q2 q3 e
      rintro e h' ⟨⟨q0, q1, q2, q3⟩, hh, c2, hf0⟩
      subst h'
      obtain ⟨f', rfl⟩ : ∃ f', f = f' + 1 := ⟨f - 1, by omega⟩
      have ham : a < (met.length : Int) := by omega
      have han : a.toNat < met.length := by omega
      obtain ⟨f1, f2, f3, f4⟩ := hF2
      unfold parts at f1
      refine Go_cut (fun e h' => St L a wv bits e ∧ h' = h2.set M (.cells ((met.map AV.bool).set a.toNat (.bool true)) 4 (some 0))) (fun Q hQ => ?_) ?_
      · clear ih hwl2
        repeat' (first | (simp (disch := omega) [go_sem, putC_one, *]) | (omega) | (with_reducible refine Br_dec (fun hp => ?_) (fun hp => ?_)) | (with_reducible refine Br_not ?_) | (with_reducible refine Br_bool (fun hp => ?_) (fun hp => ?_)) | (with_reducible refine bG_dec (fun hp => ?_) (fun hp => ?_)) | (with_reducible refine bG_bool' (fun hp => ?_) (fun hp => ?_)) | ((with_reducible refine Go_regD _ _ ?hn ?_); case hn => rfl) | ((with_reducible refine Go_regN _ _ ?hn ?_); case hn => rfl) | (with_reducible refine dE_some ?_ ?_) | (with_reducible refine dN_some ?_ ?_) | (with_reducible refine dN_some' ?_ ?_) | ((with_reducible refine Rd_dG ?hn _ _ _ _ _ ?_); case hn => rfl) | (with_reducible refine dG_dec (fun hp => ?_) (fun hp => ?_)) | (with_reducible refine dG_bool' (fun hp => ?_) (fun hp => ?_)) | (with_reducible refine Rd_nil' ?_))
        exact hQ _ _ ⟨⟨by simp [go_sem, *], by simp [go_sem, *], by simp [go_sem, *], by simp [go_sem, *]⟩, rfl⟩
      clear q0 q1 q2 q3 e
      rintro e h' ⟨⟨q0, q1, q2, q3⟩, hh⟩
      obtain ⟨met1, hm1⟩ : ∃ met1, met.set a.toNat true = met1 := ⟨_, rfl⟩
      have hml : met1.length = met.length := by rw [← hm1]; simp
      have hF3 : IsF h' L M g l ov2 T.1 met1 := by
        rw [hh]
        refine ⟨?_, ?_, f3, f4⟩
        · rw [hml, H.get_set_ne _ _ _ (by omega)]; unfold parts; exact f1
        · rw [H.get_set_eq _ _ _ rfl, ← hm1, List.map_set]
      have hol2 := out_lt hO2
      have hO3 : OutR (L + 1) h' ov2 T.2 := hO2.same (by rw [hh]; exact Nat.le_refl _) (fun j h1 h2 => by rw [hh, H.get_set_ne _ _ _ (by omega)])
      have hK3 : KeepF L M h ov h' ov2 := hK2.trans ⟨by rw [hh]; exact Nat.le_refl _, fun j h1 h2 h3 h4 => by rw [hh, H.get_set_ne _ _ _ h3], fun j h1 h2 => h2⟩
      have hW3 : Els (L + 1) h' wv 3 85 (way.map Step.av) := Els.same hW2 (by rw [hh]; exact Nat.le_refl _) (fun j h1 h2 => by rw [hh, H.get_set_ne _ _ _ (by omega)])
      clear hh hO2 hK2 hW2 f1 f2 f3 h2 hol2
      have hna' : a.toNat < g.nodes.length := by omega
      have hxa : g.nodes[a.toNat]? = some g.nodes[a.toNat] := List.getElem?_eq_getElem hna'
      have hmem : g.nodes[a.toNat] ∈ g.nodes := List.getElem_mem hna'
      have hkids := isNode_kids ((right_parts hright).2.2.2 _ hmem)
      have eT : toF g l (f' + 1) a way bits met s = kidsF (fun k w b s => toF g l f' k w b met1 s) g l g.nodes[a.toNat] way bits met1 g.nodes[a.toNat].kids 0 T := by
        conv => lhs; unfold toF
        rw [hT, if_neg (fun h => h.elim (fun h => by omega) c2), hxa]
        simp only [hm1]
      rw [eT]
      clear eT
      have hgc := hg.each _ hmem
      generalize hn : g.nodes[a.toNat] = n at *
      refine Go_cut (fun e h2 => St L a wv bits e ∧ e.get 8 = .ptr h'.next 0 ∧ h2.next = h'.next + 1 ∧ h2.get h'.next = some (.cells n.cells 68 (some 0)) ∧ ∀ j, j < h'.next → h2.get j = h'.get j) (fun Q hQ => ?_) ?_
      · obtain ⟨f1, f2, f3, f5⟩ := hF3
        unfold parts at f1
        unfold Node.cells at hQ
        clear ih hwl2 hkids hO3 hK3 hW3
        repeat' (first | (simp (disch := omega) [go_sem, Node.av, Node.cells, *]) | (omega) | (with_reducible refine Br_dec (fun hp => ?_) (fun hp => ?_)) | (with_reducible refine Br_not ?_) | (with_reducible refine Br_bool (fun hp => ?_) (fun hp => ?_)) | (with_reducible refine bG_dec (fun hp => ?_) (fun hp => ?_)) | (with_reducible refine bG_bool' (fun hp => ?_) (fun hp => ?_)) | ((with_reducible refine Go_regD _ _ ?hn ?_); case hn => rfl) | ((with_reducible refine Go_regN _ _ ?hn ?_); case hn => rfl) | (with_reducible refine dE_some ?_ ?_) | (with_reducible refine dN_some ?_ ?_) | (with_reducible refine dN_some' ?_ ?_) | ((with_reducible refine Rd_dG ?hn _ _ _ _ _ ?_); case hn => rfl) | (with_reducible refine dG_dec (fun hp => ?_) (fun hp => ?_)) | (with_reducible refine dG_bool' (fun hp => ?_) (fun hp => ?_)) | (with_reducible refine Rd_nil' ?_))
        exact hQ _ _ ⟨⟨by simp [go_sem, *], by simp [go_sem, *], by simp [go_sem, *], by simp [go_sem, *]⟩, by simp [go_sem, *], by simp [go_sem], by simp (disch := omega) [go_sem], fun j hj => by simp (disch := omega) [go_sem]⟩
      clear q0 q1 q2 q3 e
      rintro e h2 ⟨⟨q0, q1, q2, q3⟩, q8, hn1, hn2, hn3⟩
      have hback : met1.set a.toNat false = met := by
        rw [← hm1, List.set_set]
        have : met[a.toNat] = false := by
          rw [List.getD_eq_getElem?_getD, List.getElem?_eq_getElem han] at hma
          simpa using hma
        rw [← this]
        exact List.set_getElem_self han
      generalize hR : kidsF (fun k w b s => toF g l f' k w b met1 s) g l n way bits met1 n.kids 0 T = R
      refine Go_cut (fun e h4 => e.get 0 = .ptr L 0 ∧ e.get 1 = .int .i64 a ∧ ∃ ov4, IsF h4 L M g l ov4 R.1 met1 ∧ OutR (L + 1) h4 ov4 R.2 ∧ KeepF L M h ov h4 ov4 ∧ (R.2.length : Int) + R.1 ≤ 4096) (fun Q hQ => ?_) ?_
      · have hI0 : KidI g l L M h ov way wv met1 n h'.next T h2 ov2 := by
          have hol := out_lt hO3
          refine ⟨?_, hO3.same (by omega) (fun j h1 h2 => hn3 j h2), hK3.trans ⟨by omega, fun j h1 h2 h3 h4 => hn3 j h1, fun j h1 h2 => h2⟩, hT2, Els.same hW3 (by omega) (fun j h1 h2 => hn3 j h2), hna2, hn2, by omega, fun hc => by have := hol _ hc; omega⟩
          obtain ⟨f1, f2, f3, f5⟩ := hF3
          exact ⟨by rw [hn3 L f3]; exact f1, by rw [hn3 M (by omega)]; exact f2, by omega, f5⟩
        have hN := hn2
        have hLN : L < h'.next := hF3.2.2.1
        have hML : M < L := hF3.2.2.2
        clear hn1 hn2 hn3 hF3 hO3 hK3 hW3 hna2 hT2
        unfold Node.cells ints at hN
        repeat' (first | (simp (disch := omega) [go_sem, *]) | (omega) | (with_reducible refine Br_dec (fun hp => ?_) (fun hp => ?_)) | (with_reducible refine Br_not ?_) | (with_reducible refine Br_bool (fun hp => ?_) (fun hp => ?_)) | (with_reducible refine bG_dec (fun hp => ?_) (fun hp => ?_)) | (with_reducible refine bG_bool' (fun hp => ?_) (fun hp => ?_)) | ((with_reducible refine Go_regD _ _ ?hn ?_); case hn => rfl) | ((with_reducible refine Go_regN _ _ ?hn ?_); case hn => rfl) | (with_reducible refine dE_some ?_ ?_) | (with_reducible refine dN_some ?_ ?_) | (with_reducible refine dN_some' ?_ ?_) | ((with_reducible refine Rd_dG ?hn _ _ _ _ _ ?_); case hn => rfl) | (with_reducible refine dG_dec (fun hp => ?_) (fun hp => ?_)) | (with_reducible refine dG_bool' (fun hp => ?_) (fun hp => ?_)) | (with_reducible refine Rd_nil' ?_))
        refine Go_loop (fun m e h4 => ∃ (i : Nat) (S : FS) (ov4 : AV), m = n.kids.length - i ∧ i ≤ n.kids.length ∧ kidsF (fun k w b s => toF g l f' k w b met1 s) g l n way bits met1 (n.kids.drop i) i S = R ∧ e.get 66 = .int .i64 i ∧ e.get 65 = .int .i64 n.kids.length ∧ e.get 64 = .fsl false 1 (n.kids.map (AV.int .i64)) ∧ e.get 8 = .ptr h'.next 0 ∧ St L a wv bits e ∧ KidI g l L M h ov way wv met1 n h'.next S h4 ov4) (n := n.kids.length) ?_ ?_
        · refine ⟨0, T, ov2, by omega, by omega, by simpa using hR, ?_, ?_, ?_, ?_, ⟨?_, ?_, ?_, ?_⟩, hI0⟩ <;> simp (disch := omega) [go_sem, *]
        · rintro m e h4 ⟨i, S, ov4, rfl, hi, hRi, p66, p65, p64, p8, ⟨p0, p1, p2, p3⟩, hI⟩ Q2 hQ2
          by_cases hlt : i < n.kids.length
          · have hk : n.kids[i]? = some n.kids[i] := List.getElem?_eq_getElem hlt
            obtain ⟨kb0, kb1⟩ := hkids _ (List.getElem_mem hlt)
            have hdr := drop_at n.kids i hlt
            rw [hdr] at hRi
            simp only [kidsF] at hRi
            obtain ⟨S', hS'⟩ : ∃ S', kidF (fun k w b s => toF g l f' k w b met1 s) g l n way bits met1 i n.kids[i] S = S' := ⟨_, rfl⟩
            rw [hS'] at hRi
            have hQ3 : ∀ e' h6 ov6, e'.get 66 = .int .i64 ((i : Int) + 1) → e'.get 65 = .int .i64 n.kids.length → e'.get 64 = .fsl false 1 (n.kids.map (AV.int .i64)) → e'.get 8 = .ptr h'.next 0 → St L a wv bits e' → KidI g l L M h ov way wv met1 n h'.next S' h6 ov6 → Q2 e' h6 :=
              fun e' h6 ov6 r1 r2 r3 r4 r5 r6 => hQ2 (n.kids.length - (i + 1)) e' h6 (by omega) ⟨i + 1, S', ov6, rfl, by omega, hRi, r1, r2, r3, r4, r5, r6⟩
            clear hQ hQ2 hR hRi hI0 hN hdr
            obtain ⟨f1, f2, f3, f4⟩ := hI.isF
            have hN4 := hI.node
            have hNl := hI.lt
            unfold Node.cells ints at hN4
            unfold parts at f1
            refine Go_cut (fun e h5 => e.get 67 = .bool true ∧ e.get 66 = .int .i64 i ∧ e.get 65 = .int .i64 n.kids.length ∧ e.get 64 = .fsl false 1 (n.kids.map (AV.int .i64)) ∧ e.get 8 = .ptr h'.next 0 ∧ St L a wv bits e ∧ h5 = h4) (fun Q hQ => ?_) ?_
            · clear hQ3 ih
              repeat' (first | (simp (disch := omega) [go_sem, *]) | (omega) | (with_reducible refine Br_dec (fun hp => ?_) (fun hp => ?_)) | (with_reducible refine Br_not ?_) | (with_reducible refine Br_bool (fun hp => ?_) (fun hp => ?_)) | (with_reducible refine bG_dec (fun hp => ?_) (fun hp => ?_)) | (with_reducible refine bG_bool' (fun hp => ?_) (fun hp => ?_)) | ((with_reducible refine Go_regD _ _ ?hn ?_); case hn => rfl) | ((with_reducible refine Go_regN _ _ ?hn ?_); case hn => rfl) | (with_reducible refine dE_some ?_ ?_) | (with_reducible refine dN_some ?_ ?_) | (with_reducible refine dN_some' ?_ ?_) | ((with_reducible refine Rd_dG ?hn _ _ _ _ _ ?_); case hn => rfl) | (with_reducible refine dG_dec (fun hp => ?_) (fun hp => ?_)) | (with_reducible refine dG_bool' (fun hp => ?_) (fun hp => ?_)) | (with_reducible refine Rd_nil' ?_))
              exact hQ _ _ ⟨by simp [go_sem], by simp [go_sem, *], by simp [go_sem, *], by simp [go_sem, *], by simp [go_sem, *], ⟨by simp [go_sem, *], by simp [go_sem, *], by simp [go_sem, *], by simp [go_sem, *]⟩, rfl⟩
            clear p66 p65 p64 p8 p0 p1 p2 p3 e
            rintro e h5 ⟨p67, p66, p65, p64, p8, ⟨p0, p1, p2, p3⟩, hh⟩
            subst h5
            refine Go_cut (fun e h5 => e.get 66 = .int .i64 i ∧ e.get 65 = .int .i64 n.kids.length ∧ e.get 64 = .fsl false 1 (n.kids.map (AV.int .i64)) ∧ e.get 8 = .ptr h'.next 0 ∧ St L a wv bits e ∧ h5 = h4) (fun Q hQ => ?_) ?_
            · clear hQ3 ih
              repeat' (first | (simp (disch := omega) [go_sem, *]) | (omega) | (with_reducible refine Br_dec (fun hp => ?_) (fun hp => ?_)) | (with_reducible refine Br_not ?_) | (with_reducible refine Br_bool (fun hp => ?_) (fun hp => ?_)) | (with_reducible refine bG_dec (fun hp => ?_) (fun hp => ?_)) | (with_reducible refine bG_bool' (fun hp => ?_) (fun hp => ?_)) | ((with_reducible refine Go_regD _ _ ?hn ?_); case hn => rfl) | ((with_reducible refine Go_regN _ _ ?hn ?_); case hn => rfl) | (with_reducible refine dE_some ?_ ?_) | (with_reducible refine dN_some ?_ ?_) | (with_reducible refine dN_some' ?_ ?_) | ((with_reducible refine Rd_dG ?hn _ _ _ _ _ ?_); case hn => rfl) | (with_reducible refine dG_dec (fun hp => ?_) (fun hp => ?_)) | (with_reducible refine dG_bool' (fun hp => ?_) (fun hp => ?_)) | (with_reducible refine Rd_nil' ?_))
              exact hQ _ _ ⟨by simp [go_sem, *], by simp [go_sem, *], by simp [go_sem, *], by simp [go_sem, *], ⟨by simp [go_sem, *], by simp [go_sem, *], by simp [go_sem, *], by simp [go_sem, *]⟩, rfl⟩
            clear p67 p66 p65 p64 p8 p0 p1 p2 p3 e
            rintro e h5 ⟨p66, p65, p64, p8, ⟨p0, p1, p2, p3⟩, hh⟩
            subst h5
            rw [Go_seq, Go_block]
            refine Go_cut (fun e h5 => e.get 9 = .int .i64 i ∧ e.get 10 = .int .i64 n.kids[i] ∧ e.get 66 = .int .i64 i ∧ e.get 65 = .int .i64 n.kids.length ∧ e.get 64 = .fsl false 1 (n.kids.map (AV.int .i64)) ∧ e.get 8 = .ptr h'.next 0 ∧ St L a wv bits e ∧ h5 = h4) (fun Q hQ => ?_) ?_
            · clear hQ3 ih
              repeat' (first | (simp (disch := omega) [go_sem, *]) | (omega) | (with_reducible refine Br_dec (fun hp => ?_) (fun hp => ?_)) | (with_reducible refine Br_not ?_) | (with_reducible refine Br_bool (fun hp => ?_) (fun hp => ?_)) | (with_reducible refine bG_dec (fun hp => ?_) (fun hp => ?_)) | (with_reducible refine bG_bool' (fun hp => ?_) (fun hp => ?_)) | ((with_reducible refine Go_regD _ _ ?hn ?_); case hn => rfl) | ((with_reducible refine Go_regN _ _ ?hn ?_); case hn => rfl) | (with_reducible refine dE_some ?_ ?_) | (with_reducible refine dN_some ?_ ?_) | (with_reducible refine dN_some' ?_ ?_) | ((with_reducible refine Rd_dG ?hn _ _ _ _ _ ?_); case hn => rfl) | (with_reducible refine dG_dec (fun hp => ?_) (fun hp => ?_)) | (with_reducible refine dG_bool' (fun hp => ?_) (fun hp => ?_)) | (with_reducible refine Rd_nil' ?_))
              exact hQ _ _ ⟨by simp [go_sem], by simp [go_sem], by simp [go_sem, *], by simp [go_sem, *], by simp [go_sem, *], by simp [go_sem, *], ⟨by simp [go_sem, *], by simp [go_sem, *], by simp [go_sem, *], by simp [go_sem, *]⟩, rfl⟩
            clear p66 p65 p64 p8 p0 p1 p2 p3 e
            rintro e h5 ⟨p9, p10, p66, p65, p64, p8, ⟨p0, p1, p2, p3⟩, hh⟩
            subst h5
            refine Go_cut (fun e h5 => e.get 11 = .ptr h4.next 0 ∧ e.get 9 = .int .i64 i ∧ e.get 10 = .int .i64 n.kids[i] ∧ e.get 66 = .int .i64 i ∧ e.get 65 = .int .i64 n.kids.length ∧ e.get 64 = .fsl false 1 (n.kids.map (AV.int .i64)) ∧ e.get 8 = .ptr h'.next 0 ∧ St L a wv bits e ∧ h5.next = h4.next + 1 ∧ h5.get h4.next = some (.cells [.str [], .int .i64 i, .bool true] 85 (some 0)) ∧ ∀ j, j < h4.next → h5.get j = h4.get j) (fun Q hQ => ?_) ?_
            · clear hQ3 ih
              repeat' (first | (simp (disch := omega) [go_sem, *]) | (omega) | (with_reducible refine Br_dec (fun hp => ?_) (fun hp => ?_)) | (with_reducible refine Br_not ?_) | (with_reducible refine Br_bool (fun hp => ?_) (fun hp => ?_)) | (with_reducible refine bG_dec (fun hp => ?_) (fun hp => ?_)) | (with_reducible refine bG_bool' (fun hp => ?_) (fun hp => ?_)) | ((with_reducible refine Go_regD _ _ ?hn ?_); case hn => rfl) | ((with_reducible refine Go_regN _ _ ?hn ?_); case hn => rfl) | (with_reducible refine dE_some ?_ ?_) | (with_reducible refine dN_some ?_ ?_) | (with_reducible refine dN_some' ?_ ?_) | ((with_reducible refine Rd_dG ?hn _ _ _ _ _ ?_); case hn => rfl) | (with_reducible refine dG_dec (fun hp => ?_) (fun hp => ?_)) | (with_reducible refine dG_bool' (fun hp => ?_) (fun hp => ?_)) | (with_reducible refine Rd_nil' ?_))
              exact hQ _ _ ⟨by simp [go_sem], by simp [go_sem, *], by simp [go_sem, *], by simp [go_sem, *], by simp [go_sem, *], by simp [go_sem, *], by simp [go_sem, *], ⟨by simp [go_sem, *], by simp [go_sem, *], by simp [go_sem, *], by simp [go_sem, *]⟩, by simp [go_sem], by simp (disch := omega) [go_sem], fun j hj => by simp (disch := omega) [go_sem]⟩
            clear p9 p10 p66 p65 p64 p8 p0 p1 p2 p3 e
            rintro e h5 ⟨p11, p9, p10, p66, p65, p64, p8, ⟨p0, p1, p2, p3⟩, n5, w5, k5⟩
            have hN5 := (k5 _ hNl).trans hN4
            have hL5 := (k5 _ f3).trans f1
            refine Go_cut (fun e h6 => ∃ w, kidW g n i = some w ∧ e.get 11 = .ptr h4.next 0 ∧ e.get 10 = .int .i64 n.kids[i] ∧ e.get 66 = .int .i64 i ∧ e.get 65 = .int .i64 n.kids.length ∧ e.get 64 = .fsl false 1 (n.kids.map (AV.int .i64)) ∧ e.get 8 = .ptr h'.next 0 ∧ St L a wv bits e ∧ h4.next + 1 ≤ h6.next ∧ h6.get h4.next = some (.cells w.cells 85 (some 0)) ∧ ∀ j, j < h4.next → h6.get j = h4.get j) (fun Q hQ => ?_) ?_
            · by_cases c6 : n.kind = 6
              · rw [c6] at hN5
                by_cases c7 : i % 2 = 0
                · have hw : kidW g n i = none := by unfold kidW; rw [if_pos c6, if_pos c7]
                  have hS : S' = S := by rw [← hS']; unfold kidF; rw [hw]
                  subst hS
                  have hrem : (i : Int).tmod 2 = 0 := by rw [Int.tmod_eq_emod_of_nonneg (by omega)]; omega
                  have hQ4 := fun e' h6 r1 r2 r3 r4 r5 q1 q2 => hQ3 e' h6 ov4 r1 r2 r3 r4 r5 (hI.same q1 q2)
                  clear hQ hQ3 ih hI hS'
                  repeat' (first | (simp (disch := omega) [go_sem, *]) | (omega) | (with_reducible refine Br_dec (fun hp => ?_) (fun hp => ?_)) | (with_reducible refine Br_not ?_) | (with_reducible refine Br_bool (fun hp => ?_) (fun hp => ?_)) | (with_reducible refine bG_dec (fun hp => ?_) (fun hp => ?_)) | (with_reducible refine bG_bool' (fun hp => ?_) (fun hp => ?_)) | ((with_reducible refine Go_regD _ _ ?hn ?_); case hn => rfl) | ((with_reducible refine Go_regN _ _ ?hn ?_); case hn => rfl) | (with_reducible refine dE_some ?_ ?_) | (with_reducible refine dN_some ?_ ?_) | (with_reducible refine dN_some' ?_ ?_) | ((with_reducible refine Rd_dG ?hn _ _ _ _ _ ?_); case hn => rfl) | (with_reducible refine dG_dec (fun hp => ?_) (fun hp => ?_)) | (with_reducible refine dG_bool' (fun hp => ?_) (fun hp => ?_)) | (with_reducible refine Rd_nil' ?_))
                  exact hQ4 _ _ (by simp [go_sem, *]) (by simp [go_sem, *]) (by simp [go_sem, *]) (by simp [go_sem, *]) ⟨by simp [go_sem, *], by simp [go_sem, *], by simp [go_sem, *], by simp [go_sem, *]⟩ (by omega) k5
                · have hi0 : i - 1 < n.kids.length := by omega
                  have hx : n.kids[i - 1]? = some n.kids[i - 1] := List.getElem?_eq_getElem hi0
                  obtain ⟨kc0, kc1⟩ := hkids _ (List.getElem_mem hi0)
                  have hrem : ¬ (i : Int).tmod 2 = 0 := by rw [Int.tmod_eq_emod_of_nonneg (by omega)]; omega
                  have him : ((i : Int) - 1).toNat = i - 1 := by omega
                  have hyl : n.kids[i - 1].toNat < g.nodes.length := by omega
                  have hy : g.nodes[n.kids[i - 1].toNat]? = some g.nodes[n.kids[i - 1].toNat] := List.getElem?_eq_getElem hyl
                  have hkw : kidW g n i = if g.nodes[n.kids[i - 1].toNat].kind = 4 ∧ g.nodes[n.kids[i - 1].toNat].text.length ≤ 256 then some ⟨g.nodes[n.kids[i - 1].toNat].text, 0, false⟩ else none := by
                    unfold kidW
                    rw [if_pos c6, if_neg c7, List.getD_eq_getElem?_getD, hx]
                    simp only [Option.getD_some, hy]
                  by_cases c8 : g.nodes[n.kids[i - 1].toNat].kind = 4 ∧ g.nodes[n.kids[i - 1].toNat].text.length ≤ 256
                  · rw [if_pos c8] at hkw
                    obtain ⟨c8, c9⟩ := c8
                    have hQ4 := fun e' h6 => hQ e' h6
                    have hQ5 : ∀ e' h6, e'.get 11 = .ptr h4.next 0 → e'.get 10 = .int .i64 n.kids[i] → e'.get 66 = .int .i64 i → e'.get 65 = .int .i64 n.kids.length → e'.get 64 = .fsl false 1 (n.kids.map (AV.int .i64)) → e'.get 8 = .ptr h'.next 0 → St L a wv bits e' → h4.next + 1 ≤ h6.next → h6.get h4.next = some (.cells [.str g.nodes[n.kids[i - 1].toNat].text, .int .i64 0, .bool false] 85 (some 0)) → (∀ j, j < h4.next → h6.get j = h4.get j) → Q e' h6 := fun e' h6 r1 r2 r3 r4 r5 r6 r7 r8 r9 r10 => hQ e' h6 ⟨_, hkw, r1, r2, r3, r4, r5, r6, r7, r8, r9, r10⟩
                    clear hQ hQ4 hQ3 ih hI hS' hkw
                    repeat' (first | (simp (disch := omega) [go_sem, Node.av, Node.cells, ints, *]) | (omega) | (with_reducible refine Br_dec (fun hp => ?_) (fun hp => ?_)) | (with_reducible refine Br_not ?_) | (with_reducible refine Br_bool (fun hp => ?_) (fun hp => ?_)) | (with_reducible refine bG_dec (fun hp => ?_) (fun hp => ?_)) | (with_reducible refine bG_bool' (fun hp => ?_) (fun hp => ?_)) | ((with_reducible refine Go_regD _ _ ?hn ?_); case hn => rfl) | ((with_reducible refine Go_regN _ _ ?hn ?_); case hn => rfl) | (with_reducible refine dE_some ?_ ?_) | (with_reducible refine dN_some ?_ ?_) | (with_reducible refine dN_some' ?_ ?_) | ((with_reducible refine Rd_dG ?hn _ _ _ _ _ ?_); case hn => rfl) | (with_reducible refine dG_dec (fun hp => ?_) (fun hp => ?_)) | (with_reducible refine dG_bool' (fun hp => ?_) (fun hp => ?_)) | (with_reducible refine Rd_nil' ?_))
                    exact hQ5 _ _ (by simp [go_sem, *]) (by simp [go_sem, *]) (by simp [go_sem, *]) (by simp [go_sem, *]) (by simp [go_sem, *]) (by simp [go_sem, *]) ⟨by simp [go_sem, *], by simp [go_sem, *], by simp [go_sem, *], by simp [go_sem, *]⟩ (by simp only [go_sem]; omega) (by simp (disch := omega) [go_sem]) (fun j hj => by simp (disch := omega) [go_sem]; exact k5 j hj)
                  · rw [if_neg c8] at hkw
                    have hS : S' = S := by rw [← hS']; unfold kidF; rw [hkw]
                    subst hS
                    have hQ4 := fun e' h6 r1 r2 r3 r4 r5 q1 q2 => hQ3 e' h6 ov4 r1 r2 r3 r4 r5 (hI.same q1 q2)
                    clear hQ hQ3 ih hI hS' hkw
                    by_cases c9 : g.nodes[n.kids[i - 1].toNat].kind = 4
                    · have c10 : ¬ (g.nodes[n.kids[i - 1].toNat].text.length : Int) ≤ 256 := fun hc => c8 ⟨c9, by omega⟩
                      clear c8
                      repeat' (first | (simp (disch := omega) [go_sem, Node.av, Node.cells, ints, *]) | (omega) | (with_reducible refine Br_dec (fun hp => ?_) (fun hp => ?_)) | (with_reducible refine Br_not ?_) | (with_reducible refine Br_bool (fun hp => ?_) (fun hp => ?_)) | (with_reducible refine bG_dec (fun hp => ?_) (fun hp => ?_)) | (with_reducible refine bG_bool' (fun hp => ?_) (fun hp => ?_)) | ((with_reducible refine Go_regD _ _ ?hn ?_); case hn => rfl) | ((with_reducible refine Go_regN _ _ ?hn ?_); case hn => rfl) | (with_reducible refine dE_some ?_ ?_) | (with_reducible refine dN_some ?_ ?_) | (with_reducible refine dN_some' ?_ ?_) | ((with_reducible refine Rd_dG ?hn _ _ _ _ _ ?_); case hn => rfl) | (with_reducible refine dG_dec (fun hp => ?_) (fun hp => ?_)) | (with_reducible refine dG_bool' (fun hp => ?_) (fun hp => ?_)) | (with_reducible refine Rd_nil' ?_))
                      exact hQ4 _ _ (by simp [go_sem, *]) (by simp [go_sem, *]) (by simp [go_sem, *]) (by simp [go_sem, *]) ⟨by simp [go_sem, *], by simp [go_sem, *], by simp [go_sem, *], by simp [go_sem, *]⟩ (by simp only [go_sem]; omega) (fun j hj => by simp (disch := omega) [go_sem]; exact k5 j hj)
                    · clear c8
                      repeat' (first | (simp (disch := omega) [go_sem, Node.av, Node.cells, ints, *]) | (omega) | (with_reducible refine Br_dec (fun hp => ?_) (fun hp => ?_)) | (with_reducible refine Br_not ?_) | (with_reducible refine Br_bool (fun hp => ?_) (fun hp => ?_)) | (with_reducible refine bG_dec (fun hp => ?_) (fun hp => ?_)) | (with_reducible refine bG_bool' (fun hp => ?_) (fun hp => ?_)) | ((with_reducible refine Go_regD _ _ ?hn ?_); case hn => rfl) | ((with_reducible refine Go_regN _ _ ?hn ?_); case hn => rfl) | (with_reducible refine dE_some ?_ ?_) | (with_reducible refine dN_some ?_ ?_) | (with_reducible refine dN_some' ?_ ?_) | ((with_reducible refine Rd_dG ?hn _ _ _ _ _ ?_); case hn => rfl) | (with_reducible refine dG_dec (fun hp => ?_) (fun hp => ?_)) | (with_reducible refine dG_bool' (fun hp => ?_) (fun hp => ?_)) | (with_reducible refine Rd_nil' ?_))
                      exact hQ4 _ _ (by simp [go_sem, *]) (by simp [go_sem, *]) (by simp [go_sem, *]) (by simp [go_sem, *]) ⟨by simp [go_sem, *], by simp [go_sem, *], by simp [go_sem, *], by simp [go_sem, *]⟩ (by simp only [go_sem]; omega) (fun j hj => by simp (disch := omega) [go_sem]; exact k5 j hj)
              · have hkw : kidW g n i = some ⟨[], i, true⟩ := by unfold kidW; rw [if_neg c6]
                have hQ5 : ∀ e', e'.get 11 = .ptr h4.next 0 → e'.get 10 = .int .i64 n.kids[i] → e'.get 66 = .int .i64 i → e'.get 65 = .int .i64 n.kids.length → e'.get 64 = .fsl false 1 (n.kids.map (AV.int .i64)) → e'.get 8 = .ptr h'.next 0 → St L a wv bits e' → Q e' h5 := fun e' r1 r2 r3 r4 r5 r6 r7 => hQ e' h5 ⟨_, hkw, r1, r2, r3, r4, r5, r6, r7, by omega, w5, k5⟩
                clear hQ hQ3 ih hI hS' hkw
                repeat' (first | (simp (disch := omega) [go_sem, *]) | (omega) | (with_reducible refine Br_dec (fun hp => ?_) (fun hp => ?_)) | (with_reducible refine Br_not ?_) | (with_reducible refine Br_bool (fun hp => ?_) (fun hp => ?_)) | (with_reducible refine bG_dec (fun hp => ?_) (fun hp => ?_)) | (with_reducible refine bG_bool' (fun hp => ?_) (fun hp => ?_)) | ((with_reducible refine Go_regD _ _ ?hn ?_); case hn => rfl) | ((with_reducible refine Go_regN _ _ ?hn ?_); case hn => rfl) | (with_reducible refine dE_some ?_ ?_) | (with_reducible refine dN_some ?_ ?_) | (with_reducible refine dN_some' ?_ ?_) | ((with_reducible refine Rd_dG ?hn _ _ _ _ _ ?_); case hn => rfl) | (with_reducible refine dG_dec (fun hp => ?_) (fun hp => ?_)) | (with_reducible refine dG_bool' (fun hp => ?_) (fun hp => ?_)) | (with_reducible refine Rd_nil' ?_))
                exact hQ5 _ (by simp [go_sem, *]) (by simp [go_sem, *]) (by simp [go_sem, *]) (by simp [go_sem, *]) (by simp [go_sem, *]) (by simp [go_sem, *]) ⟨by simp [go_sem, *], by simp [go_sem, *], by simp [go_sem, *], by simp [go_sem, *]⟩
            clear p11 p9 p10 p66 p65 p64 p8 p0 p1 p2 p3 n5 w5 k5 hN5 hL5 h5 e
            rintro e h5 ⟨w, hkw, p11, p10, p66, p65, p64, p8, ⟨p0, p1, p2, p3⟩, n5, w5, k5⟩
            have hL5 := (k5 _ f3).trans f1
            have hM5 := (k5 M (by omega)).trans f2
            have hSk : S' = if met1.getD n.kids[i].toNat false = false ∧ 0 ≤ S.1 then toF g l f' n.kids[i] (way ++ [w]) (stepR g l bits w n.kids[i]) met1 S else S := by rw [← hS']; unfold kidF; rw [hkw]
            have hLN4 : L < h4.next := f3
            have hml1 : g.nodes.length = met1.length := by omega
            have hkm : n.kids[i].toNat < met1.length := by omega
            have hM1 : (met1.map AV.bool)[n.kids[i].toNat]? = some (.bool (met1.getD n.kids[i].toNat false)) := by
              rw [List.getElem?_map, List.getD_eq_getElem?_getD, List.getElem?_eq_getElem hkm]; rfl
            by_cases c8 : met1.getD n.kids[i].toNat false = false ∧ 0 ≤ S.1
            · rw [if_pos c8] at hSk
              obtain ⟨c8, c9⟩ := c8
              have hway : way.length < 64 := by omega
              have hih := fun (h8 : H) (wv8 : AV) (F : IsF h8 L M g l ov4 S.1 met1) (O : OutR (L + 1) h8 ov4 S.2) (E : Els (L + 1) h8 wv8 3 85 ((way ++ [w]).map Step.av)) (A : ∀ j, isOut ov4 j → ¬ isOut wv8 j) => ih f' (by omega) n.kids[i] (way ++ [w]) wv8 (stepR g l bits w n.kids[i]) met1 ov4 S h8 kb0 kb1 (by simp; omega) (stepR_bound _ _ _ _ _) hml1 c8 c9 hI.sum F O E A
              rw [← hSk] at hih
              have hst := fun (h8 : H) (hm : IsM h8 L g l) => step_ok h8 L g l bits w n.kids[i] hg hm hl hbits
              have hmm := hI.isF.isM
              have hcall : ∀ (h8 : H) (l8 : Nat), h4.next ≤ h8.next → (∀ j, j < h4.next → h8.get j = h4.get j) → l8 < h8.next → h4.next ≤ l8 → h8.get l8 = some (.cells ((way.map Step.av).flatMap AV.cells ++ w.cells) 85 (some 0)) →
                  Spc 56 [.ptr L 0, .int .i64 n.kids[i], .sl l8 0 3 (way.length + 1) (way.length + 1) false, .int .u64 (stepR g l bits w n.kids[i])] h8 fun v h9 => v = .tup [] ∧ ∃ ov9, KidI g l L M h ov way wv met1 n h'.next S' h9 ov9 := by
                intro h8 l8 r1 r2 r3 r4 r5
                have hI8 := hI.same r1 r2
                have hol4 := out_lt hI.out
                refine (hih h8 _ hI8.isF hI8.out ⟨okE_steps _, .inr ⟨l8, by simp, by omega, r3, by simp, by rw [r5]; simp [Step.av, AV.cells]⟩⟩ (fun j q1 q2 => by have := hol4 j q1; simp only [isOut] at q2; omega)).mono ?_
                rintro v h9 ⟨q1, ov9, q2, q3, q4, q5⟩
                exact ⟨q1, ov9, hI8.next hLN hML q2 q3 q4 q5⟩
              have hels := hI.els
              rw [c8] at hM1
              have hQ4 := hQ3
              clear hih ih hSk hS' hI hkw
              unfold Step.cells at w5 hcall
              unfold Step.av Step.cells at hst
              generalize stepR g l bits w n.kids[i] = b1 at *
              rcases hels with ⟨hE1, ⟨hwv, hE2⟩ | ⟨l', hwv, hE2, hE3, hE4, hE5⟩⟩
              · have hw0 : way = [] := by simpa using hE2
                subst hw0
                subst hwv
                have hap := fun h8 => app_nil 85 [.str w.key, .int .i64 w.index, .bool w.isAt] h8
                repeat' (first | (simp (disch := omega) [go_sem, cutN_full, *]) | (omega) | (with_reducible refine Br_dec (fun hp => ?_) (fun hp => ?_)) | (with_reducible refine Br_not ?_) | (with_reducible refine Br_bool (fun hp => ?_) (fun hp => ?_)) | (with_reducible refine bG_dec (fun hp => ?_) (fun hp => ?_)) | (with_reducible refine bG_bool' (fun hp => ?_) (fun hp => ?_)) | (refine dE_eq (hap _) ?_ ?_) | (refine dC_spec (hst _ (hmm.same (by simp only [go_sem]; omega) (fun j hj => by simp (disch := omega) [go_sem]; exact k5 j (by omega)))) fun v h8 hv => ?_; obtain ⟨rfl, hkk⟩ := hv; have q1 := hkk.1; have q2 := hkk.2; clear hkk; simp only [go_sem] at q1) | (refine dC_spec (hcall _ (h5.next + 1) (by omega) (fun j hj => by rw [q2 j (by simp only [go_sem]; omega)]; simp (disch := omega) [go_sem]; exact k5 j hj) (by omega) (by omega) (by rw [q2 _ (by simp only [go_sem]; omega)]; simp (disch := omega) [go_sem])) fun v h9 hv => ?_; obtain ⟨rfl, ov9, hI9⟩ := hv) | ((with_reducible refine Go_regD _ _ ?hn ?_); case hn => rfl) | ((with_reducible refine Go_regN _ _ ?hn ?_); case hn => rfl) | (with_reducible refine dE_some ?_ ?_) | (with_reducible refine dN_some ?_ ?_) | (with_reducible refine dN_some' ?_ ?_) | ((with_reducible refine Rd_dG ?hn _ _ _ _ _ ?_); case hn => rfl) | (with_reducible refine dG_dec (fun hp => ?_) (fun hp => ?_)) | (with_reducible refine dG_bool' (fun hp => ?_) (fun hp => ?_)) | (with_reducible refine Rd_nil' ?_))
                exact hQ3 _ _ ov9 (by simp [go_sem, *]) (by simp [go_sem, *]) (by simp [go_sem, *]) (by simp [go_sem, *]) ⟨by simp [go_sem, *], by simp [go_sem, *], by simp [go_sem, *], by simp [go_sem, *]⟩ hI9
              · rw [List.length_map] at hwv
                subst hwv
                have hn0 : way.length ≠ 0 := by
                  intro hc
                  exact hE4 (by rw [List.length_eq_zero_iff.1 hc]; rfl)
                have hol := flat_length hE1
                rw [List.length_map] at hol
                have hcut := cutO_full l' 0 3 way.length false .i64 .i64 hn0
                have hE6 := (k5 l' (by omega)).trans hE5
                have hap := fun h8 => app_full l' way.length 85 ((way.map Step.av).flatMap AV.cells) [.str w.key, .int .i64 w.index, .bool w.isAt] h8 hway hol
                generalize (way.map Step.av).flatMap AV.cells = old at *
                repeat' (first | (simp (disch := omega) [go_sem, *]) | (omega) | (with_reducible refine Br_dec (fun hp => ?_) (fun hp => ?_)) | (with_reducible refine Br_not ?_) | (with_reducible refine Br_bool (fun hp => ?_) (fun hp => ?_)) | (with_reducible refine bG_dec (fun hp => ?_) (fun hp => ?_)) | (with_reducible refine bG_bool' (fun hp => ?_) (fun hp => ?_)) | (refine dE_eq (hap _ (by simp (disch := omega) [go_sem]; exact hE6)) ?_ ?_) | (refine dC_spec (hst _ (hmm.same (by simp only [go_sem]; omega) (fun j hj => by simp (disch := omega) [go_sem]; exact k5 j (by omega)))) fun v h8 hv => ?_; obtain ⟨rfl, hkk⟩ := hv; have q1 := hkk.1; have q2 := hkk.2; clear hkk; simp only [go_sem] at q1) | (refine dC_spec (hcall _ (h5.next + 1) (by omega) (fun j hj => by rw [q2 j (by simp only [go_sem]; omega)]; simp (disch := omega) [go_sem]; exact k5 j hj) (by omega) (by omega) (by rw [q2 _ (by simp only [go_sem]; omega)]; simp (disch := omega) [go_sem])) fun v h9 hv => ?_; obtain ⟨rfl, ov9, hI9⟩ := hv) | ((with_reducible refine Go_regD _ _ ?hn ?_); case hn => rfl) | ((with_reducible refine Go_regN _ _ ?hn ?_); case hn => rfl) | (with_reducible refine dE_some ?_ ?_) | (with_reducible refine dN_some ?_ ?_) | (with_reducible refine dN_some' ?_ ?_) | ((with_reducible refine Rd_dG ?hn _ _ _ _ _ ?_); case hn => rfl) | (with_reducible refine dG_dec (fun hp => ?_) (fun hp => ?_)) | (with_reducible refine dG_bool' (fun hp => ?_) (fun hp => ?_)) | (with_reducible refine Rd_nil' ?_))
                exact hQ3 _ _ ov9 (by simp [go_sem, *]) (by simp [go_sem, *]) (by simp [go_sem, *]) (by simp [go_sem, *]) ⟨by simp [go_sem, *], by simp [go_sem, *], by simp [go_sem, *], by simp [go_sem, *]⟩ hI9
            · rw [if_neg c8] at hSk
              subst hSk
              have hQ4 := fun e' h6 r1 r2 r3 r4 r5 q1 q2 => hQ3 e' h6 ov4 r1 r2 r3 r4 r5 (hI.same q1 q2)
              clear hQ3 ih hI hS' hkw
              cases c9 : met1.getD n.kids[i].toNat false with
              | true =>
                rw [c9] at hM1
                have hQ5 : ∀ e', e'.get 66 = .int .i64 ((i : Int) + 1) → e'.get 65 = .int .i64 n.kids.length → e'.get 64 = .fsl false 1 (n.kids.map (AV.int .i64)) → e'.get 8 = .ptr h'.next 0 → St L a wv bits e' → Q2 e' h5 := fun e' r1 r2 r3 r4 r5 => hQ4 e' h5 r1 r2 r3 r4 r5 (by omega) k5
                clear c8 hQ4
                repeat' (first | (simp (disch := omega) [go_sem, *]) | (omega) | (with_reducible refine Br_dec (fun hp => ?_) (fun hp => ?_)) | (with_reducible refine Br_not ?_) | (with_reducible refine Br_bool (fun hp => ?_) (fun hp => ?_)) | (with_reducible refine bG_dec (fun hp => ?_) (fun hp => ?_)) | (with_reducible refine bG_bool' (fun hp => ?_) (fun hp => ?_)) | ((with_reducible refine Go_regD _ _ ?hn ?_); case hn => rfl) | ((with_reducible refine Go_regN _ _ ?hn ?_); case hn => rfl) | (with_reducible refine dE_some ?_ ?_) | (with_reducible refine dN_some ?_ ?_) | (with_reducible refine dN_some' ?_ ?_) | ((with_reducible refine Rd_dG ?hn _ _ _ _ _ ?_); case hn => rfl) | (with_reducible refine dG_dec (fun hp => ?_) (fun hp => ?_)) | (with_reducible refine dG_bool' (fun hp => ?_) (fun hp => ?_)) | (with_reducible refine Rd_nil' ?_))
                exact hQ5 _ (by simp [go_sem, *]) (by simp [go_sem, *]) (by simp [go_sem, *]) (by simp [go_sem, *]) ⟨by simp [go_sem, *], by simp [go_sem, *], by simp [go_sem, *], by simp [go_sem, *]⟩
              | false =>
                rw [c9] at hM1
                have c10 : ¬ 0 ≤ S'.1 := fun hc => c8 ⟨c9, hc⟩
                have hQ5 : ∀ e', e'.get 66 = .int .i64 ((i : Int) + 1) → e'.get 65 = .int .i64 n.kids.length → e'.get 64 = .fsl false 1 (n.kids.map (AV.int .i64)) → e'.get 8 = .ptr h'.next 0 → St L a wv bits e' → Q2 e' h5 := fun e' r1 r2 r3 r4 r5 => hQ4 e' h5 r1 r2 r3 r4 r5 (by omega) k5
                clear c8 hQ4
                repeat' (first | (simp (disch := omega) [go_sem, *]) | (omega) | (with_reducible refine Br_dec (fun hp => ?_) (fun hp => ?_)) | (with_reducible refine Br_not ?_) | (with_reducible refine Br_bool (fun hp => ?_) (fun hp => ?_)) | (with_reducible refine bG_dec (fun hp => ?_) (fun hp => ?_)) | (with_reducible refine bG_bool' (fun hp => ?_) (fun hp => ?_)) | ((with_reducible refine Go_regD _ _ ?hn ?_); case hn => rfl) | ((with_reducible refine Go_regN _ _ ?hn ?_); case hn => rfl) | (with_reducible refine dE_some ?_ ?_) | (with_reducible refine dN_some ?_ ?_) | (with_reducible refine dN_some' ?_ ?_) | ((with_reducible refine Rd_dG ?hn _ _ _ _ _ ?_); case hn => rfl) | (with_reducible refine dG_dec (fun hp => ?_) (fun hp => ?_)) | (with_reducible refine dG_bool' (fun hp => ?_) (fun hp => ?_)) | (with_reducible refine Rd_nil' ?_))
                exact hQ5 _ (by simp [go_sem, *]) (by simp [go_sem, *]) (by simp [go_sem, *]) (by simp [go_sem, *]) ⟨by simp [go_sem, *], by simp [go_sem, *], by simp [go_sem, *], by simp [go_sem, *]⟩
          · rw [drop_all _ _ hlt] at hRi
            simp only [kidsF] at hRi
            have hfin : ∀ e, e.get 0 = .ptr L 0 → e.get 1 = .int .i64 a → Q e h4 := fun e r0 r1 => hQ e h4 ⟨r0, r1, ov4, by rw [← hRi]; exact hI.isF, by rw [← hRi]; exact hI.out, hI.keep, by rw [← hRi]; exact hI.sum⟩
            clear hQ hQ2 hI hI0 ih hR hRi
            repeat' (first | (simp (disch := omega) [go_sem, *]) | (omega) | (with_reducible refine Br_dec (fun hp => ?_) (fun hp => ?_)) | (with_reducible refine Br_not ?_) | (with_reducible refine Br_bool (fun hp => ?_) (fun hp => ?_)) | (with_reducible refine bG_dec (fun hp => ?_) (fun hp => ?_)) | (with_reducible refine bG_bool' (fun hp => ?_) (fun hp => ?_)) | ((with_reducible refine Go_regD _ _ ?hn ?_); case hn => rfl) | ((with_reducible refine Go_regN _ _ ?hn ?_); case hn => rfl) | (with_reducible refine dE_some ?_ ?_) | (with_reducible refine dN_some ?_ ?_) | (with_reducible refine dN_some' ?_ ?_) | ((with_reducible refine Rd_dG ?hn _ _ _ _ _ ?_); case hn => rfl) | (with_reducible refine dG_dec (fun hp => ?_) (fun hp => ?_)) | (with_reducible refine dG_bool' (fun hp => ?_) (fun hp => ?_)) | (with_reducible refine Rd_nil' ?_))
            exact hfin _ (by simp [go_sem, *]) (by simp [go_sem, *])
      · clear q0 q1 q2 q3 q8 e hn1 hn2 hn3 ih hR
        rintro e h4 ⟨q0, q1, ov4, ⟨f1, f2, f3, f5⟩, hO4, hK4, hs4⟩
        have hol4 := out_lt hO4
        have fin : ToF g l L M met h ov R (h4.set M (.cells ((met1.map AV.bool).set a.toNat (.bool false)) 4 (some 0))) := by
          refine ⟨ov4, ⟨?_, ?_, f3, f5⟩, hO4.same (Nat.le_refl _) (fun j h1 h2 => by rw [H.get_set_ne _ _ _ (by omega)]), hK4.trans ⟨Nat.le_refl _, fun j h1 h2 h3 h4 => by rw [H.get_set_ne _ _ _ h3], fun j h1 h2 => h2⟩, hs4⟩
          · rw [H.get_set_ne _ _ _ (by omega), ← hml]; exact f1
          · rw [H.get_set_eq _ _ _ rfl, ← List.map_set, hback]
        unfold parts at f1
        rw [← hml] at ham han
        clear hml hback hO4 hK4 hol4
        repeat' (first | (simp (disch := omega) [go_sem, putC_one, *]) | (omega) | (with_reducible refine Br_dec (fun hp => ?_) (fun hp => ?_)) | (with_reducible refine Br_not ?_) | (with_reducible refine Br_bool (fun hp => ?_) (fun hp => ?_)) | (with_reducible refine bG_dec (fun hp => ?_) (fun hp => ?_)) | (with_reducible refine bG_bool' (fun hp => ?_) (fun hp => ?_)) | (exact fin) | ((with_reducible refine Go_regD _ _ ?hn ?_); case hn => rfl) | ((with_reducible refine Go_regN _ _ ?hn ?_); case hn => rfl) | (with_reducible refine dE_some ?_ ?_) | (with_reducible refine dN_some ?_ ?_) | (with_reducible refine dN_some' ?_ ?_) | ((with_reducible refine Rd_dG ?hn _ _ _ _ _ ?_); case hn => rfl) | (with_reducible refine dG_dec (fun hp => ?_) (fun hp => ?_)) | (with_reducible refine dG_bool' (fun hp => ?_) (fun hp => ?_)) | (with_reducible refine Rd_nil' ?_))
end Go.Eng.Tryz
set_option maxRecDepth 20000
set_option maxHeartbeats 1000000
namespace Go.Eng.Tryz
open Go.Eng Go.Proofs Go.RowKit
def meetsR (a b : Part) : Bool :=
  if a.kind = 3 ∨ b.kind = 3 then true
  else if decide (4 ≤ a.kind) ≠ decide (4 ≤ b.kind) then false
  else if a.kind = b.kind ∧ a.kind = 1 then decide (a.text = b.text)
  else if a.kind = b.kind ∧ a.kind = 4 then decide (a.n = b.n)
  else true
theorem meets_ok (a b : Part) : Puv 118 [a.av, b.av] (.bool (meetsR a b)) := by
  refine pv ok118 (by simp [AV.clL, cl_part]) rfl fun h => ?_
  generalize hr : meetsR a b = r
  unfold meetsR at hr
  by_cases c1 : a.kind = 3
  · have e : r = true := by rw [← hr]; simp [c1]
    repeat' (first | (simp (disch := omega) [go_sem, S118, Part.av, Part.cells, *]) | (omega) | (with_reducible refine Br_dec (fun hp => ?_) (fun hp => ?_)) | (with_reducible refine Br_not ?_) | (with_reducible refine Br_bool (fun hp => ?_) (fun hp => ?_)) | (with_reducible refine bG_dec (fun hp => ?_) (fun hp => ?_)) | (with_reducible refine bG_bool' (fun hp => ?_) (fun hp => ?_)) | ((with_reducible refine Go_regD _ _ ?hn ?_); case hn => rfl) | ((with_reducible refine Go_regN _ _ ?hn ?_); case hn => rfl) | (with_reducible refine dE_some ?_ ?_) | (with_reducible refine dN_some ?_ ?_) | (with_reducible refine dN_some' ?_ ?_) | ((with_reducible refine Rd_dG ?hn _ _ _ _ _ ?_); case hn => rfl) | (with_reducible refine dG_dec (fun hp => ?_) (fun hp => ?_)) | (with_reducible refine dG_bool' (fun hp => ?_) (fun hp => ?_)) | (with_reducible refine Rd_nil' ?_))
  by_cases c2 : b.kind = 3
  · have e : r = true := by rw [← hr]; simp [c2]
    repeat' (first | (simp (disch := omega) [go_sem, S118, Part.av, Part.cells, *]) | (omega) | (with_reducible refine Br_dec (fun hp => ?_) (fun hp => ?_)) | (with_reducible refine Br_not ?_) | (with_reducible refine Br_bool (fun hp => ?_) (fun hp => ?_)) | (with_reducible refine bG_dec (fun hp => ?_) (fun hp => ?_)) | (with_reducible refine bG_bool' (fun hp => ?_) (fun hp => ?_)) | ((with_reducible refine Go_regD _ _ ?hn ?_); case hn => rfl) | ((with_reducible refine Go_regN _ _ ?hn ?_); case hn => rfl) | (with_reducible refine dE_some ?_ ?_) | (with_reducible refine dN_some ?_ ?_) | (with_reducible refine dN_some' ?_ ?_) | ((with_reducible refine Rd_dG ?hn _ _ _ _ _ ?_); case hn => rfl) | (with_reducible refine dG_dec (fun hp => ?_) (fun hp => ?_)) | (with_reducible refine dG_bool' (fun hp => ?_) (fun hp => ?_)) | (with_reducible refine Rd_nil' ?_))
  rw [if_neg (by rintro (h | h) <;> contradiction)] at hr
  by_cases c3 : 4 ≤ a.kind <;> by_cases c4 : 4 ≤ b.kind
  · by_cases c5 : a.kind = b.kind
    · by_cases c6 : b.kind = 4
      · have e : r = decide (a.n = b.n) := by rw [← hr]; simp [c3, c4, c5, c6]
        clear hr
        repeat' (first | (simp (disch := omega) [go_sem, S118, Part.av, Part.cells, *]) | (omega) | (with_reducible refine Br_dec (fun hp => ?_) (fun hp => ?_)) | (with_reducible refine Br_not ?_) | (with_reducible refine Br_bool (fun hp => ?_) (fun hp => ?_)) | (with_reducible refine bG_dec (fun hp => ?_) (fun hp => ?_)) | (with_reducible refine bG_bool' (fun hp => ?_) (fun hp => ?_)) | ((with_reducible refine Go_regD _ _ ?hn ?_); case hn => rfl) | ((with_reducible refine Go_regN _ _ ?hn ?_); case hn => rfl) | (with_reducible refine dE_some ?_ ?_) | (with_reducible refine dN_some ?_ ?_) | (with_reducible refine dN_some' ?_ ?_) | ((with_reducible refine Rd_dG ?hn _ _ _ _ _ ?_); case hn => rfl) | (with_reducible refine dG_dec (fun hp => ?_) (fun hp => ?_)) | (with_reducible refine dG_bool' (fun hp => ?_) (fun hp => ?_)) | (with_reducible refine Rd_nil' ?_))
      · have c7 : ¬ b.kind = 1 := by omega
        have e : r = true := by rw [← hr]; simp [c3, c4, c5, c6, c7]
        clear hr
        repeat' (first | (simp (disch := omega) [go_sem, S118, Part.av, Part.cells, *]) | (omega) | (with_reducible refine Br_dec (fun hp => ?_) (fun hp => ?_)) | (with_reducible refine Br_not ?_) | (with_reducible refine Br_bool (fun hp => ?_) (fun hp => ?_)) | (with_reducible refine bG_dec (fun hp => ?_) (fun hp => ?_)) | (with_reducible refine bG_bool' (fun hp => ?_) (fun hp => ?_)) | ((with_reducible refine Go_regD _ _ ?hn ?_); case hn => rfl) | ((with_reducible refine Go_regN _ _ ?hn ?_); case hn => rfl) | (with_reducible refine dE_some ?_ ?_) | (with_reducible refine dN_some ?_ ?_) | (with_reducible refine dN_some' ?_ ?_) | ((with_reducible refine Rd_dG ?hn _ _ _ _ _ ?_); case hn => rfl) | (with_reducible refine dG_dec (fun hp => ?_) (fun hp => ?_)) | (with_reducible refine dG_bool' (fun hp => ?_) (fun hp => ?_)) | (with_reducible refine Rd_nil' ?_))
    · have e : r = true := by rw [← hr]; simp [c3, c4, c5]
      clear hr
      repeat' (first | (simp (disch := omega) [go_sem, S118, Part.av, Part.cells, *]) | (omega) | (with_reducible refine Br_dec (fun hp => ?_) (fun hp => ?_)) | (with_reducible refine Br_not ?_) | (with_reducible refine Br_bool (fun hp => ?_) (fun hp => ?_)) | (with_reducible refine bG_dec (fun hp => ?_) (fun hp => ?_)) | (with_reducible refine bG_bool' (fun hp => ?_) (fun hp => ?_)) | ((with_reducible refine Go_regD _ _ ?hn ?_); case hn => rfl) | ((with_reducible refine Go_regN _ _ ?hn ?_); case hn => rfl) | (with_reducible refine dE_some ?_ ?_) | (with_reducible refine dN_some ?_ ?_) | (with_reducible refine dN_some' ?_ ?_) | ((with_reducible refine Rd_dG ?hn _ _ _ _ _ ?_); case hn => rfl) | (with_reducible refine dG_dec (fun hp => ?_) (fun hp => ?_)) | (with_reducible refine dG_bool' (fun hp => ?_) (fun hp => ?_)) | (with_reducible refine Rd_nil' ?_))
  · have e : r = false := by rw [← hr]; simp [c3, c4]
    clear hr
    repeat' (first | (simp (disch := omega) [go_sem, S118, Part.av, Part.cells, *]) | (omega) | (with_reducible refine Br_dec (fun hp => ?_) (fun hp => ?_)) | (with_reducible refine Br_not ?_) | (with_reducible refine Br_bool (fun hp => ?_) (fun hp => ?_)) | (with_reducible refine bG_dec (fun hp => ?_) (fun hp => ?_)) | (with_reducible refine bG_bool' (fun hp => ?_) (fun hp => ?_)) | ((with_reducible refine Go_regD _ _ ?hn ?_); case hn => rfl) | ((with_reducible refine Go_regN _ _ ?hn ?_); case hn => rfl) | (with_reducible refine dE_some ?_ ?_) | (with_reducible refine dN_some ?_ ?_) | (with_reducible refine dN_some' ?_ ?_) | ((with_reducible refine Rd_dG ?hn _ _ _ _ _ ?_); case hn => rfl) | (with_reducible refine dG_dec (fun hp => ?_) (fun hp => ?_)) | (with_reducible refine dG_bool' (fun hp => ?_) (fun hp => ?_)) | (with_reducible refine Rd_nil' ?_))
  · have e : r = false := by rw [← hr]; simp [c3, c4]
    clear hr
    repeat' (first | (simp (disch := omega) [go_sem, S118, Part.av, Part.cells, *]) | (omega) | (with_reducible refine Br_dec (fun hp => ?_) (fun hp => ?_)) | (with_reducible refine Br_not ?_) | (with_reducible refine Br_bool (fun hp => ?_) (fun hp => ?_)) | (with_reducible refine bG_dec (fun hp => ?_) (fun hp => ?_)) | (with_reducible refine bG_bool' (fun hp => ?_) (fun hp => ?_)) | ((with_reducible refine Go_regD _ _ ?hn ?_); case hn => rfl) | ((with_reducible refine Go_regN _ _ ?hn ?_); case hn => rfl) | (with_reducible refine dE_some ?_ ?_) | (with_reducible refine dN_some ?_ ?_) | (with_reducible refine dN_some' ?_ ?_) | ((with_reducible refine Rd_dG ?hn _ _ _ _ _ ?_); case hn => rfl) | (with_reducible refine dG_dec (fun hp => ?_) (fun hp => ?_)) | (with_reducible refine dG_bool' (fun hp => ?_) (fun hp => ?_)) | (with_reducible refine Rd_nil' ?_))
  · by_cases c5 : a.kind = b.kind
    · by_cases c6 : b.kind = 1
      · have e : r = decide (a.text = b.text) := by rw [← hr]; simp [c3, c4, c5, c6]
        clear hr
        repeat' (first | (simp (disch := omega) [go_sem, S118, Part.av, Part.cells, *]) | (omega) | (with_reducible refine Br_dec (fun hp => ?_) (fun hp => ?_)) | (with_reducible refine Br_not ?_) | (with_reducible refine Br_bool (fun hp => ?_) (fun hp => ?_)) | (with_reducible refine bG_dec (fun hp => ?_) (fun hp => ?_)) | (with_reducible refine bG_bool' (fun hp => ?_) (fun hp => ?_)) | ((with_reducible refine Go_regD _ _ ?hn ?_); case hn => rfl) | ((with_reducible refine Go_regN _ _ ?hn ?_); case hn => rfl) | (with_reducible refine dE_some ?_ ?_) | (with_reducible refine dN_some ?_ ?_) | (with_reducible refine dN_some' ?_ ?_) | ((with_reducible refine Rd_dG ?hn _ _ _ _ _ ?_); case hn => rfl) | (with_reducible refine dG_dec (fun hp => ?_) (fun hp => ?_)) | (with_reducible refine dG_bool' (fun hp => ?_) (fun hp => ?_)) | (with_reducible refine Rd_nil' ?_))
      · have c7 : ¬ b.kind = 4 := by omega
        have e : r = true := by rw [← hr]; simp [c3, c4, c5, c6, c7]
        clear hr
        repeat' (first | (simp (disch := omega) [go_sem, S118, Part.av, Part.cells, *]) | (omega) | (with_reducible refine Br_dec (fun hp => ?_) (fun hp => ?_)) | (with_reducible refine Br_not ?_) | (with_reducible refine Br_bool (fun hp => ?_) (fun hp => ?_)) | (with_reducible refine bG_dec (fun hp => ?_) (fun hp => ?_)) | (with_reducible refine bG_bool' (fun hp => ?_) (fun hp => ?_)) | ((with_reducible refine Go_regD _ _ ?hn ?_); case hn => rfl) | ((with_reducible refine Go_regN _ _ ?hn ?_); case hn => rfl) | (with_reducible refine dE_some ?_ ?_) | (with_reducible refine dN_some ?_ ?_) | (with_reducible refine dN_some' ?_ ?_) | ((with_reducible refine Rd_dG ?hn _ _ _ _ _ ?_); case hn => rfl) | (with_reducible refine dG_dec (fun hp => ?_) (fun hp => ?_)) | (with_reducible refine dG_bool' (fun hp => ?_) (fun hp => ?_)) | (with_reducible refine Rd_nil' ?_))
    · have e : r = true := by rw [← hr]; simp [c3, c4, c5]
      clear hr
      repeat' (first | (simp (disch := omega) [go_sem, S118, Part.av, Part.cells, *]) | (omega) | (with_reducible refine Br_dec (fun hp => ?_) (fun hp => ?_)) | (with_reducible refine Br_not ?_) | (with_reducible refine Br_bool (fun hp => ?_) (fun hp => ?_)) | (with_reducible refine bG_dec (fun hp => ?_) (fun hp => ?_)) | (with_reducible refine bG_bool' (fun hp => ?_) (fun hp => ?_)) | ((with_reducible refine Go_regD _ _ ?hn ?_); case hn => rfl) | ((with_reducible refine Go_regN _ _ ?hn ?_); case hn => rfl) | (with_reducible refine dE_some ?_ ?_) | (with_reducible refine dN_some ?_ ?_) | (with_reducible refine dN_some' ?_ ?_) | ((with_reducible refine Rd_dG ?hn _ _ _ _ _ ?_); case hn => rfl) | (with_reducible refine dG_dec (fun hp => ?_) (fun hp => ?_)) | (with_reducible refine dG_bool' (fun hp => ?_) (fun hp => ?_)) | (with_reducible refine Rd_nil' ?_))
/-! ### places -/
def reachAt (a b : List Part) (i j : Nat) : Bool :=
  if hA : i < a.length then
    if a[i].kind = 3 then reachAt a b (i + 1) j || (if hB : j < b.length then reachAt a b i (j + 1) else false)
    else if hB : j < b.length then
      if b[j].kind = 3 then reachAt a b i (j + 1) || reachAt a b (i + 1) j
      else meetsR a[i] b[j] && reachAt a b (i + 1) (j + 1)
    else false
  else if hB : j < b.length then (if b[j].kind = 3 then reachAt a b i (j + 1) else false)
  else true
termination_by (a.length - i) + (b.length - j)
def pkey (x : Int × Int) : AV := .agg [.int .i64 x.1, .int .i64 x.2]
theorem eqKey_pkey (h : H) (a b : Int × Int) : eqKey h (.many [.int, .int]) (pkey a) (pkey b) = some (decide (a = b)) := by
  simp only [eqKey, pkey, eqKs_int, eqKs_nil, andK_some]
  congr 1
  obtain ⟨a1, a2⟩ := a
  obtain ⟨b1, b2⟩ := b
  simp [Prod.mk.injEq, Bool.decide_and]
@[go_sem] theorem lk_pkey (h : H) (a b : Int) (m : List ((Int × Int) × Bool)) :
    lkO (.many [.int, .int]) (.bool false) false h (.agg [.int .i64 a, .int .i64 b]) (some (.map (encM pkey AV.bool m))) = some (.bool ((getA (a, b) m).getD false)) := by
  refine (lkO_enc (ek := pkey) (ev := AV.bool) (h := h) (q := .many [.int, .int]) (eqKey_pkey h) (fun _ => rfl) (.bool false) false (a, b) m).trans ?_
  cases getA (a, b) m <;> rfl
@[go_sem] theorem up_pkey (h : H) (l : Nat) (a b : Int) (v : Bool) (m : List ((Int × Int) × Bool)) :
    upO (.many [.int, .int]) l (.agg [.int .i64 a, .int .i64 b]) (.bool v) h (some (.map (encM pkey AV.bool m))) = some (.any, h.set l (.map (encM pkey AV.bool (putA (a, b) v m)))) := upO_enc (ek := pkey) (eqKey_pkey h) (fun _ => rfl) l (a, b) v m
def IsT (h : H) (L M : Nat) (a b : List Part) (m : List ((Int × Int) × Bool)) : Prop :=
  (∃ t f, h.get L = some (.cells [parts a, parts b, .map M] t f)) ∧ h.get M = some (.map (encM pkey AV.bool m)) ∧ L < h.next ∧ M < h.next ∧ ¬ L = M
def MInv (a b : List Part) (m : List ((Int × Int) × Bool)) (i j : Nat) : Prop := ∀ i' j' : Nat, getA ((i' : Int), (j' : Int)) m = some true → reachAt a b i' j' = false ∨ i' + j' < i + j
def ToPost (a b : List Part) (M : Nat) (m : List ((Int × Int) × Bool)) (i j : Nat) (h : H) (v : AV) (h' : H) : Prop :=
  v = .bool (reachAt a b i j) ∧ h.next ≤ h'.next ∧ (∀ k, k < h.next → ¬ k = M → h'.get k = h.get k) ∧ ∃ m', h'.get M = some (.map (encM pkey AV.bool m')) ∧ (reachAt a b i j = false → ∀ i' j' : Nat, getA ((i' : Int), (j' : Int)) m' = some true → getA ((i' : Int), (j' : Int)) m = some true ∨ reachAt a b i' j' = false)
theorem getA_here {m : List ((Int × Int) × Bool)} {i j i' j' : Nat} (h : getA ((i' : Int), (j' : Int)) (putA ((i : Int), (j : Int)) true m) = some true) : (i' = i ∧ j' = j) ∨ getA ((i' : Int), (j' : Int)) m = some true := by
  rw [getA_put] at h
  split at h
  · rename_i hk
    simp only [Prod.mk.injEq] at hk
    exact .inl ⟨by omega, by omega⟩
  · exact .inr h
theorem reach_end {a b : List Part} {i j : Nat} (hA : ¬ i < a.length) (hB : ¬ j < b.length) : reachAt a b i j = true := by rw [reachAt, dif_neg hA, dif_neg hB]
theorem reach_deepA {a b : List Part} {i j : Nat} (hA : i < a.length) (hk : a[i].kind = 3) (hB : j < b.length) : reachAt a b i j = (reachAt a b (i + 1) j || reachAt a b i (j + 1)) := by rw [reachAt, dif_pos hA, if_pos hk, dif_pos hB]
theorem reach_deepA' {a b : List Part} {i j : Nat} (hA : i < a.length) (hk : a[i].kind = 3) (hB : ¬ j < b.length) : reachAt a b i j = reachAt a b (i + 1) j := by rw [reachAt, dif_pos hA, if_pos hk, dif_neg hB, Bool.or_false]
theorem reach_deepB {a b : List Part} {i j : Nat} (hA : i < a.length) (hk : ¬ a[i].kind = 3) (hB : j < b.length) (hk2 : b[j].kind = 3) : reachAt a b i j = (reachAt a b i (j + 1) || reachAt a b (i + 1) j) := by rw [reachAt, dif_pos hA, if_neg hk, dif_pos hB, if_pos hk2]
theorem reach_deepB' {a b : List Part} {i j : Nat} (hA : ¬ i < a.length) (hB : j < b.length) (hk2 : b[j].kind = 3) : reachAt a b i j = reachAt a b i (j + 1) := by rw [reachAt, dif_neg hA, dif_pos hB, if_pos hk2]
theorem reach_both {a b : List Part} {i j : Nat} (hA : i < a.length) (hk : ¬ a[i].kind = 3) (hB : j < b.length) (hk2 : ¬ b[j].kind = 3) : reachAt a b i j = (meetsR a[i] b[j] && reachAt a b (i + 1) (j + 1)) := by rw [reachAt, dif_pos hA, if_neg hk, dif_pos hB, if_neg hk2]
theorem reach_noB {a b : List Part} {i j : Nat} (hA : i < a.length) (hk : ¬ a[i].kind = 3) (hB : ¬ j < b.length) : reachAt a b i j = false := by rw [reachAt, dif_pos hA, if_neg hk, dif_neg hB]
theorem reach_noA {a b : List Part} {i j : Nat} (hA : ¬ i < a.length) (hB : j < b.length) (hk2 : ¬ b[j].kind = 3) : reachAt a b i j = false := by rw [reachAt, dif_neg hA, dif_pos hB, if_neg hk2]
theorem IsT.mark {h h' : H} {L M : Nat} {a b : List Part} {m m' : List ((Int × Int) × Bool)} (ht : IsT h L M a b m) (hn : h.next ≤ h'.next) (hg : ∀ k, k < h.next → ¬ k = M → h'.get k = h.get k) (hm : h'.get M = some (.map (encM pkey AV.bool m'))) : IsT h' L M a b m' := by
  obtain ⟨⟨t, f, h1⟩, h2, h3, h4, h5⟩ := ht
  exact ⟨⟨t, f, by rw [hg L h3 h5]; exact h1⟩, hm, by omega, by omega, h5⟩
def Mid (a b : List Part) (m : List ((Int × Int) × Bool)) (i j : Nat) (m2 : List ((Int × Int) × Bool)) : Prop := ∀ i' j' : Nat, getA ((i' : Int), (j' : Int)) m2 = some true → getA ((i' : Int), (j' : Int)) m = some true ∨ (i' = i ∧ j' = j) ∨ reachAt a b i' j' = false
theorem to_ok (a b : List Part) (ha : a.length ≤ 32) (hb : b.length ≤ 32) (L M : Nat) : ∀ (n i j : Nat), (a.length - i) + (b.length - j) < n → i ≤ a.length → j ≤ b.length → ∀ (h : H) (m : List ((Int × Int) × Bool)), IsT h L M a b m → MInv a b m i j →
    Spc 59 [.ptr L 0, .agg [.int .i64 i, .int .i64 j]] h fun v h' => ToPost a b M m i j h v h'
  | 0, i, j, hn, _, _, _, _, _, _ => by omega
  | n + 1, i, j, hn, hi, hj, h, m, hT, hI => by
    have hT0 := hT
    obtain ⟨⟨t, f, g1⟩, g2, g3, g4, g5⟩ := hT
    refine sg ok59 rfl ?_
    unfold parts at g1
    cases hwas : (getA ((i : Int), (j : Int)) m).getD false with
    | true =>
      have hsome : getA ((i : Int), (j : Int)) m = some true := by
        cases hq : getA ((i : Int), (j : Int)) m with
        | none => rw [hq] at hwas; cases hwas
        | some c => rw [hq] at hwas; simp only [Option.getD_some] at hwas; rw [hwas]
      have hr : reachAt a b i j = false := (hI i j hsome).resolve_right (by omega)
      have fin : ∀ h', h.next ≤ h'.next → (∀ k, k < h.next → h'.get k = h.get k) → ToPost a b M m i j h (.bool false) h' := fun h' k1 k2 => ⟨by rw [hr], k1, fun k hk _ => k2 k hk, m, by rw [k2 M g4]; exact g2, fun _ i' j' hm' => .inl hm'⟩
      clear hI hT0
      repeat' (first | (simp (disch := omega) [go_sem, S59, *]) | (omega) | (with_reducible refine Br_dec (fun hp => ?_) (fun hp => ?_)) | (with_reducible refine Br_not ?_) | (with_reducible refine Br_bool (fun hp => ?_) (fun hp => ?_)) | (with_reducible refine bG_dec (fun hp => ?_) (fun hp => ?_)) | (with_reducible refine bG_bool' (fun hp => ?_) (fun hp => ?_)) | ((with_reducible refine Go_regD _ _ ?hn ?_); case hn => rfl) | ((with_reducible refine Go_regN _ _ ?hn ?_); case hn => rfl) | (with_reducible refine dE_some ?_ ?_) | (with_reducible refine dN_some ?_ ?_) | (with_reducible refine dN_some' ?_ ?_) | ((with_reducible refine Rd_dG ?hn _ _ _ _ _ ?_); case hn => rfl) | (with_reducible refine dG_dec (fun hp => ?_) (fun hp => ?_)) | (with_reducible refine dG_bool' (fun hp => ?_) (fun hp => ?_)) | (with_reducible refine Rd_nil' ?_))
      exact fin _ (by simp [go_sem]) fun k hk => by simp (disch := omega) [go_sem]
    | false =>
      have hM1 : Mid a b m i j (putA ((i : Int), (j : Int)) true m) := fun i' j' hq => by
        rcases getA_here hq with h1 | h1
        · exact .inr (.inl h1)
        · exact .inl h1
      have call : ∀ (i2 j2 : Nat) (r : Bool), reachAt a b i2 j2 = r → i2 ≤ a.length → j2 ≤ b.length → i ≤ i2 → j ≤ j2 → i + j < i2 + j2 → ∀ (h1 : H) (m2 : List ((Int × Int) × Bool)), Mid a b m i j m2 → h.next ≤ h1.next → (∀ k, k < h.next → ¬ k = M → h1.get k = h.get k) → h1.get M = some (.map (encM pkey AV.bool m2)) →
          Spc 59 [.ptr L 0, .agg [.int .i64 i2, .int .i64 j2]] h1 fun v h' => v = .bool r ∧ h1.next ≤ h'.next ∧ (∀ k, k < h1.next → ¬ k = M → h'.get k = h1.get k) ∧ ∃ m3, h'.get M = some (.map (encM pkey AV.bool m3)) ∧ (r = false → Mid a b m i j m3) := by
        intro i2 j2 r hr hi2 hj2 hi3 hj3 hij h1 m2 hmid hn1 hf1 hg1
        refine (to_ok a b ha hb L M n i2 j2 (by omega) hi2 hj2 h1 m2 (hT0.mark hn1 hf1 hg1) ?_).mono ?_
        · intro i' j' hq
          rcases hmid i' j' hq with h2 | ⟨h2, h3⟩ | h2
          · rcases hI i' j' h2 with h3 | h3
            · exact .inl h3
            · exact .inr (by omega)
          · exact .inr (by omega)
          · exact .inl h2
        · rintro v h' ⟨p1, p2, p3, m3, p4, p5⟩
          rw [hr] at p1 p5
          refine ⟨p1, p2, p3, m3, p4, fun hrf i' j' hq => ?_⟩
          rcases p5 hrf i' j' hq with h2 | h2
          · exact hmid i' j' h2
          · exact .inr (.inr h2)
      have fin : ∀ (r : Bool) (h' : H) (m3 : List ((Int × Int) × Bool)), reachAt a b i j = r → h.next ≤ h'.next → (∀ k, k < h.next → ¬ k = M → h'.get k = h.get k) → h'.get M = some (.map (encM pkey AV.bool m3)) → (r = false → Mid a b m i j m3) → ToPost a b M m i j h (.bool r) h' := by
        intro r h' m3 hr k1 k2 k3 k4
        refine ⟨by rw [hr], k1, k2, m3, k3, fun hrf i' j' hq => ?_⟩
        rcases k4 (by rw [← hr]; exact hrf) i' j' hq with h2 | ⟨h2, h3⟩ | h2
        · exact .inl h2
        · exact .inr (by rw [h2, h3]; exact hrf)
        · exact .inr h2
      clear hI hT0
      by_cases hA : i < a.length
      · have hxa : a[i]? = some a[i] := List.getElem?_eq_getElem hA
        by_cases hk : a[i].kind = 3
        · by_cases hB : j < b.length
          · cases hr1 : reachAt a b (i + 1) j with
            | true =>
              have hr : reachAt a b i j = true := by rw [reach_deepA hA hk hB, hr1]; rfl
              have c1 := call (i + 1) j _ hr1 (by omega) (by omega) (by omega) (by omega) (by omega)
              rw [show ((i + 1 : Nat) : Int) = (i : Int) + 1 by omega] at c1
              clear call
              repeat' (first | (simp (disch := omega) [go_sem, S59, Part.av, Part.cells, *]) | (omega) | (with_reducible refine Br_dec (fun hp => ?_) (fun hp => ?_)) | (with_reducible refine Br_not ?_) | (with_reducible refine Br_bool (fun hp => ?_) (fun hp => ?_)) | (with_reducible refine bG_dec (fun hp => ?_) (fun hp => ?_)) | (with_reducible refine bG_bool' (fun hp => ?_) (fun hp => ?_)) | (refine bC_spec (c1 _ (putA ((i : Int), (j : Int)) true m) hM1 (by simp [go_sem] <;> omega) (fun k h1 h2 => by simp (disch := omega) [go_sem]) (by simp (disch := omega) [go_sem])) fun v h2 hv => ?_; obtain ⟨rfl, p1, p2, m3, p3, p4⟩ := hv; have p5 := p2 h.next (by simp [go_sem] <;> omega) (by omega); simp (disch := omega) only [go_sem] at p1 p5) | (exact fin _ _ m3 hr (by omega) (fun k h1 h3 => by rw [p2 k (by simp [go_sem] <;> omega) h3]; simp (disch := omega) [go_sem]) p3 p4) | ((with_reducible refine Go_regD _ _ ?hn ?_); case hn => rfl) | ((with_reducible refine Go_regN _ _ ?hn ?_); case hn => rfl) | (with_reducible refine dE_some ?_ ?_) | (with_reducible refine dN_some ?_ ?_) | (with_reducible refine dN_some' ?_ ?_) | ((with_reducible refine Rd_dG ?hn _ _ _ _ _ ?_); case hn => rfl) | (with_reducible refine dG_dec (fun hp => ?_) (fun hp => ?_)) | (with_reducible refine dG_bool' (fun hp => ?_) (fun hp => ?_)) | (with_reducible refine Rd_nil' ?_))
            | false =>
              cases hr2 : reachAt a b i (j + 1) with
              | true =>
                have hr : reachAt a b i j = true := by rw [reach_deepA hA hk hB, hr1, hr2]; rfl
                have c1 := call (i + 1) j _ hr1 (by omega) (by omega) (by omega) (by omega) (by omega)
                rw [show ((i + 1 : Nat) : Int) = (i : Int) + 1 by omega] at c1
                have c2 := call i (j + 1) _ hr2 (by omega) (by omega) (by omega) (by omega) (by omega)
                rw [show ((j + 1 : Nat) : Int) = (j : Int) + 1 by omega] at c2
                clear call
                repeat' (first | (simp (disch := omega) [go_sem, S59, Part.av, Part.cells, *]) | (omega) | (with_reducible refine Br_dec (fun hp => ?_) (fun hp => ?_)) | (with_reducible refine Br_not ?_) | (with_reducible refine Br_bool (fun hp => ?_) (fun hp => ?_)) | (with_reducible refine bG_dec (fun hp => ?_) (fun hp => ?_)) | (with_reducible refine bG_bool' (fun hp => ?_) (fun hp => ?_)) | (refine bC_spec (c1 _ (putA ((i : Int), (j : Int)) true m) hM1 (by simp [go_sem] <;> omega) (fun k h1 h2 => by simp (disch := omega) [go_sem]) (by simp (disch := omega) [go_sem])) fun v h2 hv => ?_; obtain ⟨rfl, p1, p2, m3, p3, p4⟩ := hv; have p5 := p2 h.next (by simp [go_sem] <;> omega) (by omega); simp (disch := omega) only [go_sem] at p1 p5) | (refine bC_spec (c2 _ m3 (p4 rfl) (by omega) (fun k h1 h3 => by rw [p2 k (by simp [go_sem] <;> omega) h3]; simp (disch := omega) [go_sem]) p3) fun v h4 hv => ?_; obtain ⟨rfl, s1, s2, m4, s3, s4⟩ := hv) | (exact fin _ _ m4 hr (by omega) (fun k h1 h3 => by rw [s2 k (by omega) h3, p2 k (by simp [go_sem] <;> omega) h3]; simp (disch := omega) [go_sem]) s3 s4) | ((with_reducible refine Go_regD _ _ ?hn ?_); case hn => rfl) | ((with_reducible refine Go_regN _ _ ?hn ?_); case hn => rfl) | (with_reducible refine dE_some ?_ ?_) | (with_reducible refine dN_some ?_ ?_) | (with_reducible refine dN_some' ?_ ?_) | ((with_reducible refine Rd_dG ?hn _ _ _ _ _ ?_); case hn => rfl) | (with_reducible refine dG_dec (fun hp => ?_) (fun hp => ?_)) | (with_reducible refine dG_bool' (fun hp => ?_) (fun hp => ?_)) | (with_reducible refine Rd_nil' ?_))
              | false =>
                have hr : reachAt a b i j = false := by rw [reach_deepA hA hk hB, hr1, hr2]; rfl
                have c1 := call (i + 1) j _ hr1 (by omega) (by omega) (by omega) (by omega) (by omega)
                rw [show ((i + 1 : Nat) : Int) = (i : Int) + 1 by omega] at c1
                have c2 := call i (j + 1) _ hr2 (by omega) (by omega) (by omega) (by omega) (by omega)
                rw [show ((j + 1 : Nat) : Int) = (j : Int) + 1 by omega] at c2
                clear call
                repeat' (first | (simp (disch := omega) [go_sem, S59, Part.av, Part.cells, *]) | (omega) | (with_reducible refine Br_dec (fun hp => ?_) (fun hp => ?_)) | (with_reducible refine Br_not ?_) | (with_reducible refine Br_bool (fun hp => ?_) (fun hp => ?_)) | (with_reducible refine bG_dec (fun hp => ?_) (fun hp => ?_)) | (with_reducible refine bG_bool' (fun hp => ?_) (fun hp => ?_)) | (refine bC_spec (c1 _ (putA ((i : Int), (j : Int)) true m) hM1 (by simp [go_sem] <;> omega) (fun k h1 h2 => by simp (disch := omega) [go_sem]) (by simp (disch := omega) [go_sem])) fun v h2 hv => ?_; obtain ⟨rfl, p1, p2, m3, p3, p4⟩ := hv; have p5 := p2 h.next (by simp [go_sem] <;> omega) (by omega); simp (disch := omega) only [go_sem] at p1 p5) | (refine bC_spec (c2 _ m3 (p4 rfl) (by omega) (fun k h1 h3 => by rw [p2 k (by simp [go_sem] <;> omega) h3]; simp (disch := omega) [go_sem]) p3) fun v h4 hv => ?_; obtain ⟨rfl, s1, s2, m4, s3, s4⟩ := hv) | (exact fin _ _ m4 hr (by omega) (fun k h1 h3 => by rw [s2 k (by omega) h3, p2 k (by simp [go_sem] <;> omega) h3]; simp (disch := omega) [go_sem]) s3 s4) | ((with_reducible refine Go_regD _ _ ?hn ?_); case hn => rfl) | ((with_reducible refine Go_regN _ _ ?hn ?_); case hn => rfl) | (with_reducible refine dE_some ?_ ?_) | (with_reducible refine dN_some ?_ ?_) | (with_reducible refine dN_some' ?_ ?_) | ((with_reducible refine Rd_dG ?hn _ _ _ _ _ ?_); case hn => rfl) | (with_reducible refine dG_dec (fun hp => ?_) (fun hp => ?_)) | (with_reducible refine dG_bool' (fun hp => ?_) (fun hp => ?_)) | (with_reducible refine Rd_nil' ?_))
          · cases hr1 : reachAt a b (i + 1) j with
            | true =>
              have hr : reachAt a b i j = true := by rw [reach_deepA' hA hk hB, hr1]
              have c1 := call (i + 1) j _ hr1 (by omega) (by omega) (by omega) (by omega) (by omega)
              rw [show ((i + 1 : Nat) : Int) = (i : Int) + 1 by omega] at c1
              clear call
              repeat' (first | (simp (disch := omega) [go_sem, S59, Part.av, Part.cells, *]) | (omega) | (with_reducible refine Br_dec (fun hp => ?_) (fun hp => ?_)) | (with_reducible refine Br_not ?_) | (with_reducible refine Br_bool (fun hp => ?_) (fun hp => ?_)) | (with_reducible refine bG_dec (fun hp => ?_) (fun hp => ?_)) | (with_reducible refine bG_bool' (fun hp => ?_) (fun hp => ?_)) | (refine bC_spec (c1 _ (putA ((i : Int), (j : Int)) true m) hM1 (by simp [go_sem] <;> omega) (fun k h1 h2 => by simp (disch := omega) [go_sem]) (by simp (disch := omega) [go_sem])) fun v h2 hv => ?_; obtain ⟨rfl, p1, p2, m3, p3, p4⟩ := hv; have p5 := p2 h.next (by simp [go_sem] <;> omega) (by omega); simp (disch := omega) only [go_sem] at p1 p5) | (exact fin _ _ m3 hr (by omega) (fun k h1 h3 => by rw [p2 k (by simp [go_sem] <;> omega) h3]; simp (disch := omega) [go_sem]) p3 p4) | ((with_reducible refine Go_regD _ _ ?hn ?_); case hn => rfl) | ((with_reducible refine Go_regN _ _ ?hn ?_); case hn => rfl) | (with_reducible refine dE_some ?_ ?_) | (with_reducible refine dN_some ?_ ?_) | (with_reducible refine dN_some' ?_ ?_) | ((with_reducible refine Rd_dG ?hn _ _ _ _ _ ?_); case hn => rfl) | (with_reducible refine dG_dec (fun hp => ?_) (fun hp => ?_)) | (with_reducible refine dG_bool' (fun hp => ?_) (fun hp => ?_)) | (with_reducible refine Rd_nil' ?_))
            | false =>
              have hr : reachAt a b i j = false := by rw [reach_deepA' hA hk hB, hr1]
              have c1 := call (i + 1) j _ hr1 (by omega) (by omega) (by omega) (by omega) (by omega)
              rw [show ((i + 1 : Nat) : Int) = (i : Int) + 1 by omega] at c1
              clear call
              repeat' (first | (simp (disch := omega) [go_sem, S59, Part.av, Part.cells, *]) | (omega) | (with_reducible refine Br_dec (fun hp => ?_) (fun hp => ?_)) | (with_reducible refine Br_not ?_) | (with_reducible refine Br_bool (fun hp => ?_) (fun hp => ?_)) | (with_reducible refine bG_dec (fun hp => ?_) (fun hp => ?_)) | (with_reducible refine bG_bool' (fun hp => ?_) (fun hp => ?_)) | (refine bC_spec (c1 _ (putA ((i : Int), (j : Int)) true m) hM1 (by simp [go_sem] <;> omega) (fun k h1 h2 => by simp (disch := omega) [go_sem]) (by simp (disch := omega) [go_sem])) fun v h2 hv => ?_; obtain ⟨rfl, p1, p2, m3, p3, p4⟩ := hv; have p5 := p2 h.next (by simp [go_sem] <;> omega) (by omega); simp (disch := omega) only [go_sem] at p1 p5) | (exact fin _ _ m3 hr (by omega) (fun k h1 h3 => by rw [p2 k (by simp [go_sem] <;> omega) h3]; simp (disch := omega) [go_sem]) p3 p4) | ((with_reducible refine Go_regD _ _ ?hn ?_); case hn => rfl) | ((with_reducible refine Go_regN _ _ ?hn ?_); case hn => rfl) | (with_reducible refine dE_some ?_ ?_) | (with_reducible refine dN_some ?_ ?_) | (with_reducible refine dN_some' ?_ ?_) | ((with_reducible refine Rd_dG ?hn _ _ _ _ _ ?_); case hn => rfl) | (with_reducible refine dG_dec (fun hp => ?_) (fun hp => ?_)) | (with_reducible refine dG_bool' (fun hp => ?_) (fun hp => ?_)) | (with_reducible refine Rd_nil' ?_))
        · by_cases hB : j < b.length
          · have hxb : b[j]? = some b[j] := List.getElem?_eq_getElem hB
            by_cases hk2 : b[j].kind = 3
            · cases hr1 : reachAt a b i (j + 1) with
              | true =>
                have hr : reachAt a b i j = true := by rw [reach_deepB hA hk hB hk2, hr1]; rfl
                have c1 := call i (j + 1) _ hr1 (by omega) (by omega) (by omega) (by omega) (by omega)
                rw [show ((j + 1 : Nat) : Int) = (j : Int) + 1 by omega] at c1
                clear call
                repeat' (first | (simp (disch := omega) [go_sem, S59, Part.av, Part.cells, *]) | (omega) | (with_reducible refine Br_dec (fun hp => ?_) (fun hp => ?_)) | (with_reducible refine Br_not ?_) | (with_reducible refine Br_bool (fun hp => ?_) (fun hp => ?_)) | (with_reducible refine bG_dec (fun hp => ?_) (fun hp => ?_)) | (with_reducible refine bG_bool' (fun hp => ?_) (fun hp => ?_)) | (refine bC_spec (c1 _ (putA ((i : Int), (j : Int)) true m) hM1 (by simp [go_sem] <;> omega) (fun k h1 h2 => by simp (disch := omega) [go_sem]) (by simp (disch := omega) [go_sem])) fun v h2 hv => ?_; obtain ⟨rfl, p1, p2, m3, p3, p4⟩ := hv; have p5 := p2 h.next (by simp [go_sem] <;> omega) (by omega); simp (disch := omega) only [go_sem] at p1 p5) | (exact fin _ _ m3 hr (by omega) (fun k h1 h3 => by rw [p2 k (by simp [go_sem] <;> omega) h3]; simp (disch := omega) [go_sem]) p3 p4) | ((with_reducible refine Go_regD _ _ ?hn ?_); case hn => rfl) | ((with_reducible refine Go_regN _ _ ?hn ?_); case hn => rfl) | (with_reducible refine dE_some ?_ ?_) | (with_reducible refine dN_some ?_ ?_) | (with_reducible refine dN_some' ?_ ?_) | ((with_reducible refine Rd_dG ?hn _ _ _ _ _ ?_); case hn => rfl) | (with_reducible refine dG_dec (fun hp => ?_) (fun hp => ?_)) | (with_reducible refine dG_bool' (fun hp => ?_) (fun hp => ?_)) | (with_reducible refine Rd_nil' ?_))
              | false =>
                cases hr2 : reachAt a b (i + 1) j with
                | true =>
                  have hr : reachAt a b i j = true := by rw [reach_deepB hA hk hB hk2, hr1, hr2]; rfl
                  have c1 := call i (j + 1) _ hr1 (by omega) (by omega) (by omega) (by omega) (by omega)
                  rw [show ((j + 1 : Nat) : Int) = (j : Int) + 1 by omega] at c1
                  have c2 := call (i + 1) j _ hr2 (by omega) (by omega) (by omega) (by omega) (by omega)
                  rw [show ((i + 1 : Nat) : Int) = (i : Int) + 1 by omega] at c2
                  clear call
                  repeat' (first | (simp (disch := omega) [go_sem, S59, Part.av, Part.cells, *]) | (omega) | (with_reducible refine Br_dec (fun hp => ?_) (fun hp => ?_)) | (with_reducible refine Br_not ?_) | (with_reducible refine Br_bool (fun hp => ?_) (fun hp => ?_)) | (with_reducible refine bG_dec (fun hp => ?_) (fun hp => ?_)) | (with_reducible refine bG_bool' (fun hp => ?_) (fun hp => ?_)) | (refine bC_spec (c1 _ (putA ((i : Int), (j : Int)) true m) hM1 (by simp [go_sem] <;> omega) (fun k h1 h2 => by simp (disch := omega) [go_sem]) (by simp (disch := omega) [go_sem])) fun v h2 hv => ?_; obtain ⟨rfl, p1, p2, m3, p3, p4⟩ := hv; have p5 := p2 h.next (by simp [go_sem] <;> omega) (by omega); simp (disch := omega) only [go_sem] at p1 p5) | (refine bC_spec (c2 _ m3 (p4 rfl) (by omega) (fun k h1 h3 => by rw [p2 k (by simp [go_sem] <;> omega) h3]; simp (disch := omega) [go_sem]) p3) fun v h4 hv => ?_; obtain ⟨rfl, s1, s2, m4, s3, s4⟩ := hv) | (exact fin _ _ m4 hr (by omega) (fun k h1 h3 => by rw [s2 k (by omega) h3, p2 k (by simp [go_sem] <;> omega) h3]; simp (disch := omega) [go_sem]) s3 s4) | ((with_reducible refine Go_regD _ _ ?hn ?_); case hn => rfl) | ((with_reducible refine Go_regN _ _ ?hn ?_); case hn => rfl) | (with_reducible refine dE_some ?_ ?_) | (with_reducible refine dN_some ?_ ?_) | (with_reducible refine dN_some' ?_ ?_) | ((with_reducible refine Rd_dG ?hn _ _ _ _ _ ?_); case hn => rfl) | (with_reducible refine dG_dec (fun hp => ?_) (fun hp => ?_)) | (with_reducible refine dG_bool' (fun hp => ?_) (fun hp => ?_)) | (with_reducible refine Rd_nil' ?_))
                | false =>
                  have hr : reachAt a b i j = false := by rw [reach_deepB hA hk hB hk2, hr1, hr2]; rfl
                  have c1 := call i (j + 1) _ hr1 (by omega) (by omega) (by omega) (by omega) (by omega)
                  rw [show ((j + 1 : Nat) : Int) = (j : Int) + 1 by omega] at c1
                  have c2 := call (i + 1) j _ hr2 (by omega) (by omega) (by omega) (by omega) (by omega)
                  rw [show ((i + 1 : Nat) : Int) = (i : Int) + 1 by omega] at c2
                  clear call
                  repeat' (first | (simp (disch := omega) [go_sem, S59, Part.av, Part.cells, *]) | (omega) | (with_reducible refine Br_dec (fun hp => ?_) (fun hp => ?_)) | (with_reducible refine Br_not ?_) | (with_reducible refine Br_bool (fun hp => ?_) (fun hp => ?_)) | (with_reducible refine bG_dec (fun hp => ?_) (fun hp => ?_)) | (with_reducible refine bG_bool' (fun hp => ?_) (fun hp => ?_)) | (refine bC_spec (c1 _ (putA ((i : Int), (j : Int)) true m) hM1 (by simp [go_sem] <;> omega) (fun k h1 h2 => by simp (disch := omega) [go_sem]) (by simp (disch := omega) [go_sem])) fun v h2 hv => ?_; obtain ⟨rfl, p1, p2, m3, p3, p4⟩ := hv; have p5 := p2 h.next (by simp [go_sem] <;> omega) (by omega); simp (disch := omega) only [go_sem] at p1 p5) | (refine bC_spec (c2 _ m3 (p4 rfl) (by omega) (fun k h1 h3 => by rw [p2 k (by simp [go_sem] <;> omega) h3]; simp (disch := omega) [go_sem]) p3) fun v h4 hv => ?_; obtain ⟨rfl, s1, s2, m4, s3, s4⟩ := hv) | (exact fin _ _ m4 hr (by omega) (fun k h1 h3 => by rw [s2 k (by omega) h3, p2 k (by simp [go_sem] <;> omega) h3]; simp (disch := omega) [go_sem]) s3 s4) | ((with_reducible refine Go_regD _ _ ?hn ?_); case hn => rfl) | ((with_reducible refine Go_regN _ _ ?hn ?_); case hn => rfl) | (with_reducible refine dE_some ?_ ?_) | (with_reducible refine dN_some ?_ ?_) | (with_reducible refine dN_some' ?_ ?_) | ((with_reducible refine Rd_dG ?hn _ _ _ _ _ ?_); case hn => rfl) | (with_reducible refine dG_dec (fun hp => ?_) (fun hp => ?_)) | (with_reducible refine dG_bool' (fun hp => ?_) (fun hp => ?_)) | (with_reducible refine Rd_nil' ?_))
            · have hme := meets_ok a[i] b[j]
              unfold Part.av Part.cells at hme
              cases hmt : meetsR a[i] b[j] with
              | true =>
                rw [hmt] at hme
                cases hr1 : reachAt a b (i + 1) (j + 1) with
                | true =>
                  have hr : reachAt a b i j = true := by rw [reach_both hA hk hB hk2, hmt, hr1]; rfl
                  have c1 := call (i + 1) (j + 1) _ hr1 (by omega) (by omega) (by omega) (by omega) (by omega)
                  rw [show ((i + 1 : Nat) : Int) = (i : Int) + 1 by omega, show ((j + 1 : Nat) : Int) = (j : Int) + 1 by omega] at c1
                  clear call
                  repeat' (first | (simp (disch := omega) [go_sem, S59, Part.av, Part.cells, *]) | (omega) | (with_reducible refine Br_dec (fun hp => ?_) (fun hp => ?_)) | (with_reducible refine Br_not ?_) | (with_reducible refine Br_bool (fun hp => ?_) (fun hp => ?_)) | (with_reducible refine bG_dec (fun hp => ?_) (fun hp => ?_)) | (with_reducible refine bG_bool' (fun hp => ?_) (fun hp => ?_)) | (refine dC_v hme ?_) | (refine dC_spec (c1 _ (putA ((i : Int), (j : Int)) true m) hM1 (by simp [go_sem] <;> omega) (fun k h1 h2 => by simp (disch := omega) [go_sem]) (by simp (disch := omega) [go_sem])) fun v h2 hv => ?_; obtain ⟨rfl, p1, p2, m3, p3, p4⟩ := hv; have p5 := p2 h.next (by simp [go_sem] <;> omega) (by omega); simp (disch := omega) only [go_sem] at p1 p5) | (exact fin _ _ m3 hr (by omega) (fun k h1 h3 => by rw [p2 k (by simp [go_sem] <;> omega) h3]; simp (disch := omega) [go_sem]) p3 p4) | ((with_reducible refine Go_regD _ _ ?hn ?_); case hn => rfl) | ((with_reducible refine Go_regN _ _ ?hn ?_); case hn => rfl) | (with_reducible refine dE_some ?_ ?_) | (with_reducible refine dN_some ?_ ?_) | (with_reducible refine dN_some' ?_ ?_) | ((with_reducible refine Rd_dG ?hn _ _ _ _ _ ?_); case hn => rfl) | (with_reducible refine dG_dec (fun hp => ?_) (fun hp => ?_)) | (with_reducible refine dG_bool' (fun hp => ?_) (fun hp => ?_)) | (with_reducible refine Rd_nil' ?_))
                | false =>
                  have hr : reachAt a b i j = false := by rw [reach_both hA hk hB hk2, hmt, hr1]; rfl
                  have c1 := call (i + 1) (j + 1) _ hr1 (by omega) (by omega) (by omega) (by omega) (by omega)
                  rw [show ((i + 1 : Nat) : Int) = (i : Int) + 1 by omega, show ((j + 1 : Nat) : Int) = (j : Int) + 1 by omega] at c1
                  clear call
                  repeat' (first | (simp (disch := omega) [go_sem, S59, Part.av, Part.cells, *]) | (omega) | (with_reducible refine Br_dec (fun hp => ?_) (fun hp => ?_)) | (with_reducible refine Br_not ?_) | (with_reducible refine Br_bool (fun hp => ?_) (fun hp => ?_)) | (with_reducible refine bG_dec (fun hp => ?_) (fun hp => ?_)) | (with_reducible refine bG_bool' (fun hp => ?_) (fun hp => ?_)) | (refine dC_v hme ?_) | (refine dC_spec (c1 _ (putA ((i : Int), (j : Int)) true m) hM1 (by simp [go_sem] <;> omega) (fun k h1 h2 => by simp (disch := omega) [go_sem]) (by simp (disch := omega) [go_sem])) fun v h2 hv => ?_; obtain ⟨rfl, p1, p2, m3, p3, p4⟩ := hv; have p5 := p2 h.next (by simp [go_sem] <;> omega) (by omega); simp (disch := omega) only [go_sem] at p1 p5) | (exact fin _ _ m3 hr (by omega) (fun k h1 h3 => by rw [p2 k (by simp [go_sem] <;> omega) h3]; simp (disch := omega) [go_sem]) p3 p4) | ((with_reducible refine Go_regD _ _ ?hn ?_); case hn => rfl) | ((with_reducible refine Go_regN _ _ ?hn ?_); case hn => rfl) | (with_reducible refine dE_some ?_ ?_) | (with_reducible refine dN_some ?_ ?_) | (with_reducible refine dN_some' ?_ ?_) | ((with_reducible refine Rd_dG ?hn _ _ _ _ _ ?_); case hn => rfl) | (with_reducible refine dG_dec (fun hp => ?_) (fun hp => ?_)) | (with_reducible refine dG_bool' (fun hp => ?_) (fun hp => ?_)) | (with_reducible refine Rd_nil' ?_))
              | false =>
                rw [hmt] at hme
                have hr : reachAt a b i j = false := by rw [reach_both hA hk hB hk2, hmt]; rfl
                clear call
                repeat' (first | (simp (disch := omega) [go_sem, S59, Part.av, Part.cells, *]) | (omega) | (with_reducible refine Br_dec (fun hp => ?_) (fun hp => ?_)) | (with_reducible refine Br_not ?_) | (with_reducible refine Br_bool (fun hp => ?_) (fun hp => ?_)) | (with_reducible refine bG_dec (fun hp => ?_) (fun hp => ?_)) | (with_reducible refine bG_bool' (fun hp => ?_) (fun hp => ?_)) | (refine dC_v hme ?_) | (exact fin _ _ (putA ((i : Int), (j : Int)) true m) hr (by simp [go_sem]) (fun k h1 h2 => by simp (disch := omega) [go_sem]) (by simp (disch := omega) [go_sem]) (fun _ => hM1)) | ((with_reducible refine Go_regD _ _ ?hn ?_); case hn => rfl) | ((with_reducible refine Go_regN _ _ ?hn ?_); case hn => rfl) | (with_reducible refine dE_some ?_ ?_) | (with_reducible refine dN_some ?_ ?_) | (with_reducible refine dN_some' ?_ ?_) | ((with_reducible refine Rd_dG ?hn _ _ _ _ _ ?_); case hn => rfl) | (with_reducible refine dG_dec (fun hp => ?_) (fun hp => ?_)) | (with_reducible refine dG_bool' (fun hp => ?_) (fun hp => ?_)) | (with_reducible refine Rd_nil' ?_))
          · have hr := reach_noB hA hk hB
            clear call
            repeat' (first | (simp (disch := omega) [go_sem, S59, Part.av, Part.cells, *]) | (omega) | (with_reducible refine Br_dec (fun hp => ?_) (fun hp => ?_)) | (with_reducible refine Br_not ?_) | (with_reducible refine Br_bool (fun hp => ?_) (fun hp => ?_)) | (with_reducible refine bG_dec (fun hp => ?_) (fun hp => ?_)) | (with_reducible refine bG_bool' (fun hp => ?_) (fun hp => ?_)) | (exact fin _ _ (putA ((i : Int), (j : Int)) true m) hr (by simp [go_sem]) (fun k h1 h2 => by simp (disch := omega) [go_sem]) (by simp (disch := omega) [go_sem]) (fun _ => hM1)) | ((with_reducible refine Go_regD _ _ ?hn ?_); case hn => rfl) | ((with_reducible refine Go_regN _ _ ?hn ?_); case hn => rfl) | (with_reducible refine dE_some ?_ ?_) | (with_reducible refine dN_some ?_ ?_) | (with_reducible refine dN_some' ?_ ?_) | ((with_reducible refine Rd_dG ?hn _ _ _ _ _ ?_); case hn => rfl) | (with_reducible refine dG_dec (fun hp => ?_) (fun hp => ?_)) | (with_reducible refine dG_bool' (fun hp => ?_) (fun hp => ?_)) | (with_reducible refine Rd_nil' ?_))
      · by_cases hB : j < b.length
        · have hxb : b[j]? = some b[j] := List.getElem?_eq_getElem hB
          by_cases hk2 : b[j].kind = 3
          · cases hr1 : reachAt a b i (j + 1) with
            | true =>
              have hr : reachAt a b i j = true := by rw [reach_deepB' hA hB hk2, hr1]
              have c1 := call i (j + 1) _ hr1 (by omega) (by omega) (by omega) (by omega) (by omega)
              rw [show ((j + 1 : Nat) : Int) = (j : Int) + 1 by omega] at c1
              clear call
              repeat' (first | (simp (disch := omega) [go_sem, S59, Part.av, Part.cells, *]) | (omega) | (with_reducible refine Br_dec (fun hp => ?_) (fun hp => ?_)) | (with_reducible refine Br_not ?_) | (with_reducible refine Br_bool (fun hp => ?_) (fun hp => ?_)) | (with_reducible refine bG_dec (fun hp => ?_) (fun hp => ?_)) | (with_reducible refine bG_bool' (fun hp => ?_) (fun hp => ?_)) | (refine bC_spec (c1 _ (putA ((i : Int), (j : Int)) true m) hM1 (by simp [go_sem] <;> omega) (fun k h1 h2 => by simp (disch := omega) [go_sem]) (by simp (disch := omega) [go_sem])) fun v h2 hv => ?_; obtain ⟨rfl, p1, p2, m3, p3, p4⟩ := hv; have p5 := p2 h.next (by simp [go_sem] <;> omega) (by omega); simp (disch := omega) only [go_sem] at p1 p5) | (exact fin _ _ m3 hr (by omega) (fun k h1 h3 => by rw [p2 k (by simp [go_sem] <;> omega) h3]; simp (disch := omega) [go_sem]) p3 p4) | ((with_reducible refine Go_regD _ _ ?hn ?_); case hn => rfl) | ((with_reducible refine Go_regN _ _ ?hn ?_); case hn => rfl) | (with_reducible refine dE_some ?_ ?_) | (with_reducible refine dN_some ?_ ?_) | (with_reducible refine dN_some' ?_ ?_) | ((with_reducible refine Rd_dG ?hn _ _ _ _ _ ?_); case hn => rfl) | (with_reducible refine dG_dec (fun hp => ?_) (fun hp => ?_)) | (with_reducible refine dG_bool' (fun hp => ?_) (fun hp => ?_)) | (with_reducible refine Rd_nil' ?_))
            | false =>
              have hr : reachAt a b i j = false := by rw [reach_deepB' hA hB hk2, hr1]
              have c1 := call i (j + 1) _ hr1 (by omega) (by omega) (by omega) (by omega) (by omega)
              rw [show ((j + 1 : Nat) : Int) = (j : Int) + 1 by omega] at c1
              clear call
              repeat' (first | (simp (disch := omega) [go_sem, S59, Part.av, Part.cells, *]) | (omega) | (with_reducible refine Br_dec (fun hp => ?_) (fun hp => ?_)) | (with_reducible refine Br_not ?_) | (with_reducible refine Br_bool (fun hp => ?_) (fun hp => ?_)) | (with_reducible refine bG_dec (fun hp => ?_) (fun hp => ?_)) | (with_reducible refine bG_bool' (fun hp => ?_) (fun hp => ?_)) | (refine bC_spec (c1 _ (putA ((i : Int), (j : Int)) true m) hM1 (by simp [go_sem] <;> omega) (fun k h1 h2 => by simp (disch := omega) [go_sem]) (by simp (disch := omega) [go_sem])) fun v h2 hv => ?_; obtain ⟨rfl, p1, p2, m3, p3, p4⟩ := hv; have p5 := p2 h.next (by simp [go_sem] <;> omega) (by omega); simp (disch := omega) only [go_sem] at p1 p5) | (exact fin _ _ m3 hr (by omega) (fun k h1 h3 => by rw [p2 k (by simp [go_sem] <;> omega) h3]; simp (disch := omega) [go_sem]) p3 p4) | ((with_reducible refine Go_regD _ _ ?hn ?_); case hn => rfl) | ((with_reducible refine Go_regN _ _ ?hn ?_); case hn => rfl) | (with_reducible refine dE_some ?_ ?_) | (with_reducible refine dN_some ?_ ?_) | (with_reducible refine dN_some' ?_ ?_) | ((with_reducible refine Rd_dG ?hn _ _ _ _ _ ?_); case hn => rfl) | (with_reducible refine dG_dec (fun hp => ?_) (fun hp => ?_)) | (with_reducible refine dG_bool' (fun hp => ?_) (fun hp => ?_)) | (with_reducible refine Rd_nil' ?_))
          · have hr := reach_noA hA hB hk2
            clear call
            repeat' (first | (simp (disch := omega) [go_sem, S59, Part.av, Part.cells, *]) | (omega) | (with_reducible refine Br_dec (fun hp => ?_) (fun hp => ?_)) | (with_reducible refine Br_not ?_) | (with_reducible refine Br_bool (fun hp => ?_) (fun hp => ?_)) | (with_reducible refine bG_dec (fun hp => ?_) (fun hp => ?_)) | (with_reducible refine bG_bool' (fun hp => ?_) (fun hp => ?_)) | (exact fin _ _ (putA ((i : Int), (j : Int)) true m) hr (by simp [go_sem]) (fun k h1 h2 => by simp (disch := omega) [go_sem]) (by simp (disch := omega) [go_sem]) (fun _ => hM1)) | ((with_reducible refine Go_regD _ _ ?hn ?_); case hn => rfl) | ((with_reducible refine Go_regN _ _ ?hn ?_); case hn => rfl) | (with_reducible refine dE_some ?_ ?_) | (with_reducible refine dN_some ?_ ?_) | (with_reducible refine dN_some' ?_ ?_) | ((with_reducible refine Rd_dG ?hn _ _ _ _ _ ?_); case hn => rfl) | (with_reducible refine dG_dec (fun hp => ?_) (fun hp => ?_)) | (with_reducible refine dG_bool' (fun hp => ?_) (fun hp => ?_)) | (with_reducible refine Rd_nil' ?_))
        · have hr := reach_end hA hB
          clear call
          repeat' (first | (simp (disch := omega) [go_sem, S59, *]) | (omega) | (with_reducible refine Br_dec (fun hp => ?_) (fun hp => ?_)) | (with_reducible refine Br_not ?_) | (with_reducible refine Br_bool (fun hp => ?_) (fun hp => ?_)) | (with_reducible refine bG_dec (fun hp => ?_) (fun hp => ?_)) | (with_reducible refine bG_bool' (fun hp => ?_) (fun hp => ?_)) | ((with_reducible refine Go_regD _ _ ?hn ?_); case hn => rfl) | ((with_reducible refine Go_regN _ _ ?hn ?_); case hn => rfl) | (with_reducible refine dE_some ?_ ?_) | (with_reducible refine dN_some ?_ ?_) | (with_reducible refine dN_some' ?_ ?_) | ((with_reducible refine Rd_dG ?hn _ _ _ _ _ ?_); case hn => rfl) | (with_reducible refine dG_dec (fun hp => ?_) (fun hp => ?_)) | (with_reducible refine dG_bool' (fun hp => ?_) (fun hp => ?_)) | (with_reducible refine Rd_nil' ?_))
          exact fin true _ (putA ((i : Int), (j : Int)) true m) hr (by simp [go_sem]) (fun k h1 h2 => by simp (disch := omega) [go_sem]) (by simp (disch := omega) [go_sem]) (fun h => by cases h)
end Go.Eng.Tryz
set_option maxRecDepth 20000
set_option maxHeartbeats 1000000
namespace Go.Eng.Tryz
open Go.Eng Go.Proofs Go.RowKit
def meetR (a b : List Part) : Bool × Int := if fmtE a = 0 ∧ fmtE b = 0 then (reachAt a b 0 0, 0) else (false, 1)
theorem fmtE_len {l : List Part} (h : fmtE l = 0) : l.length ≤ 32 := by
  unfold fmtE at h
  split at h
  · cases h
  · split at h
    · cases h
    · rename_i h2
      have : ¬ 32 < l.length := fun c => h2 (.inl c)
      omega
theorem Meet_ok (a b : List Part) (ha : a.length < 1099511627776) (hb : b.length < 1099511627776) : Puv 25 [parts a, parts b] (.tup [.bool (meetR a b).1, .int .i64 (meetR a b).2]) := by
  refine pv ok25 (by simp [AV.clL, cl_parts]) rfl fun h => ?_
  have hfa := FormatQ_ok a ha
  have hfb := FormatQ_ok b hb
  unfold parts at hfa hfb
  generalize hR : meetR a b = r
  unfold meetR at hR
  by_cases c1 : fmtE a = 0
  · rw [c1] at hfa
    by_cases c2 : fmtE b = 0
    · rw [c2] at hfb
      rw [if_pos ⟨c1, c2⟩] at hR
      obtain ⟨q, hq⟩ : ∃ q, reachAt a b 0 0 = q := ⟨_, rfl⟩
      have e1 : r.1 = q := by rw [← hR]; exact hq
      have e2 : r.2 = 0 := by rw [← hR]
      clear hR
      have hto := fun (h1 : H) (hT : IsT h1 (h.next + 1) h.next a b []) => to_ok a b (fmtE_len c1) (fmtE_len c2) (h.next + 1) h.next (a.length + b.length + 1) 0 0 (by omega) (by omega) (by omega) h1 [] hT (fun i' j' hq => by cases hq)
      rw [show ((0 : Nat) : Int) = 0 from rfl] at hto
      repeat' (first | (simp (disch := omega) [go_sem, S25, parts, *]) | (omega) | (with_reducible refine Br_dec (fun hp => ?_) (fun hp => ?_)) | (with_reducible refine Br_not ?_) | (with_reducible refine Br_bool (fun hp => ?_) (fun hp => ?_)) | (with_reducible refine bG_dec (fun hp => ?_) (fun hp => ?_)) | (with_reducible refine bG_bool' (fun hp => ?_) (fun hp => ?_)) | (refine bC_pure hfa fun v hv => ?_; obtain ⟨t, rfl⟩ := hv) | (refine bC_pure hfb fun v hv => ?_; obtain ⟨t, rfl⟩ := hv) | (refine bC_spec (hto _ ⟨⟨110, some 0, by simp (disch := omega) [go_sem, parts]⟩, by simp (disch := omega) [go_sem, encM], by simp [go_sem] <;> omega, by simp [go_sem] <;> omega, by omega⟩) fun v h2 hv => ?_; have hv1 := hv.1; rw [hq] at hv1; clear hv) | ((with_reducible refine Go_regD _ _ ?hn ?_); case hn => rfl) | ((with_reducible refine Go_regN _ _ ?hn ?_); case hn => rfl) | (with_reducible refine dE_some ?_ ?_) | (with_reducible refine dN_some ?_ ?_) | (with_reducible refine dN_some' ?_ ?_) | ((with_reducible refine Rd_dG ?hn _ _ _ _ _ ?_); case hn => rfl) | (with_reducible refine dG_dec (fun hp => ?_) (fun hp => ?_)) | (with_reducible refine dG_bool' (fun hp => ?_) (fun hp => ?_)) | (with_reducible refine Rd_nil' ?_))
    · have e : r = (false, 1) := by rw [← hR, if_neg (fun h => c2 h.2)]
      repeat' (first | (simp (disch := omega) [go_sem, S25, parts, *]) | (omega) | (with_reducible refine Br_dec (fun hp => ?_) (fun hp => ?_)) | (with_reducible refine Br_not ?_) | (with_reducible refine Br_bool (fun hp => ?_) (fun hp => ?_)) | (with_reducible refine bG_dec (fun hp => ?_) (fun hp => ?_)) | (with_reducible refine bG_bool' (fun hp => ?_) (fun hp => ?_)) | (refine bC_pure hfa fun v hv => ?_; obtain ⟨t, rfl⟩ := hv) | (refine bC_pure hfb fun v hv => ?_; obtain ⟨t, rfl⟩ := hv) | ((with_reducible refine Go_regD _ _ ?hn ?_); case hn => rfl) | ((with_reducible refine Go_regN _ _ ?hn ?_); case hn => rfl) | (with_reducible refine dE_some ?_ ?_) | (with_reducible refine dN_some ?_ ?_) | (with_reducible refine dN_some' ?_ ?_) | ((with_reducible refine Rd_dG ?hn _ _ _ _ _ ?_); case hn => rfl) | (with_reducible refine dG_dec (fun hp => ?_) (fun hp => ?_)) | (with_reducible refine dG_bool' (fun hp => ?_) (fun hp => ?_)) | (with_reducible refine Rd_nil' ?_))
  · have e : r = (false, 1) := by rw [← hR, if_neg (fun h => c1 h.1)]
    repeat' (first | (simp (disch := omega) [go_sem, S25, parts, *]) | (omega) | (with_reducible refine Br_dec (fun hp => ?_) (fun hp => ?_)) | (with_reducible refine Br_not ?_) | (with_reducible refine Br_bool (fun hp => ?_) (fun hp => ?_)) | (with_reducible refine bG_dec (fun hp => ?_) (fun hp => ?_)) | (with_reducible refine bG_bool' (fun hp => ?_) (fun hp => ?_)) | (refine bC_pure hfa fun v hv => ?_; obtain ⟨t, rfl⟩ := hv) | ((with_reducible refine Go_regD _ _ ?hn ?_); case hn => rfl) | ((with_reducible refine Go_regN _ _ ?hn ?_); case hn => rfl) | (with_reducible refine dE_some ?_ ?_) | (with_reducible refine dN_some ?_ ?_) | (with_reducible refine dN_some' ?_ ?_) | ((with_reducible refine Rd_dG ?hn _ _ _ _ _ ?_); case hn => rfl) | (with_reducible refine dG_dec (fun hp => ?_) (fun hp => ?_)) | (with_reducible refine dG_bool' (fun hp => ?_) (fun hp => ?_)) | (with_reducible refine Rd_nil' ?_))
end Go.Eng.Tryz
set_option maxRecDepth 20000
set_option maxHeartbeats 1000000
namespace Go.Eng.Tryz
open Go.Eng Go.Proofs Go.RowKit
/-! ### keys and their values -/
theorem keysOkR_spec (g : Graph) : ∀ (ks : List Int) (m : List ((Int × List Nat) × Bool)), keysOkR g ks m = true → (∀ k ∈ ks, isScalarR (keyAt g k).1 = true ∧ wasA (keyAt g k) m = false) ∧ ks.Pairwise (fun a b => keyAt g a ≠ keyAt g b)
  | [], m, _ => ⟨by simp, .nil⟩
  | k :: ks, m, h => by
    simp only [keysOkR] at h
    split at h
    · rename_i h1
      simp only [Bool.and_eq_true, Bool.not_eq_true'] at h1
      obtain ⟨h2, h3⟩ := keysOkR_spec g ks _ h
      refine ⟨fun x hx => ?_, .cons (fun x hx he => ?_) h3⟩
      · rcases List.mem_cons.1 hx with e | hx
        · subst e; exact h1
        · refine ⟨(h2 x hx).1, ?_⟩
          have h4 := (h2 x hx).2
          unfold wasA at h4 ⊢
          rw [getA_put] at h4
          split at h4
          · cases h4
          · exact h4
      · have h4 := (h2 x hx).2
        unfold wasA at h4
        rw [getA_put, if_pos he.symm] at h4
        cases h4
    · cases h
theorem evens_pairs : ∀ l : List Int, evens l = (pairsL l).map (·.1)
  | [] => rfl
  | [a] => rfl
  | a :: b :: l => by simp only [evens, pairsL, List.map_cons, evens_pairs l]
theorem pairs_at : ∀ (l : List Int) (j : Nat) (h : 2 * j + 1 < l.length), (l[2 * j], l[2 * j + 1]) ∈ pairsL l
  | [], j, h => by simp at h
  | [a], j, h => by simp at h
  | a :: b :: l, 0, h => by simp [pairsL]
  | a :: b :: l, j + 1, h => by
    have := pairs_at l j (by simp at h; omega)
    simp only [pairsL]
    refine List.mem_cons_of_mem _ ?_
    have e1 : 2 * (j + 1) = 2 * j + 1 + 1 := by omega
    have e2 : 2 * (j + 1) + 1 = 2 * j + 1 + 1 + 1 := by omega
    simp only [e1, List.getElem_cons_succ]
    exact this
theorem entF_not (g : Graph) : ∀ (l : List (Int × Int)) (m : List ((Int × List Nat) × (Int × Int))) (k : Int × List Nat), (∀ p ∈ l, keyAt g p.1 ≠ k) → getA k (l.foldl (fun m p => putA (keyAt g p.1) p m) m) = getA k m
  | [], m, k, _ => rfl
  | x :: l, m, k, h => by
    simp only [List.foldl_cons]
    rw [entF_not g l _ k (fun p hp => h p (List.mem_cons_of_mem _ hp)), getA_put, if_neg (fun e => h x List.mem_cons_self e.symm)]
theorem entF_get (g : Graph) : ∀ (l : List (Int × Int)) (m : List ((Int × List Nat) × (Int × Int))), (l.map (·.1)).Pairwise (fun a b => keyAt g a ≠ keyAt g b) → ∀ p ∈ l, getA (keyAt g p.1) (l.foldl (fun m p => putA (keyAt g p.1) p m) m) = some p
  | [], m, _, p, hp => by cases hp
  | x :: l, m, h, p, hp => by
    simp only [List.map_cons, List.pairwise_cons] at h
    simp only [List.foldl_cons]
    rcases List.mem_cons.1 hp with e | hp
    · subst e
      rw [entF_not g l _ _ (fun q hq => fun e => h.1 q.1 (List.mem_map.2 ⟨q, hq, rfl⟩) e.symm), getA_put, if_pos rfl]
    · exact entF_get g l _ h.2 p hp
theorem right_keys {g : Graph} (hr : rightR g = true) {n : Node} (hn : n ∈ g.nodes) : (keysR n).Pairwise (fun a b => keyAt g a ≠ keyAt g b) := by
  have h := (right_parts hr).2.2.2 n hn
  unfold isNodeR at h
  split at h
  · cases h
  · split at h
    · cases h
    · split at h
      · cases h
      · exact (keysOkR_spec g _ _ h).2
theorem findR_kid {g : Graph} (hr : rightR g = true) {a : Int} {n : Node} (ha : 0 ≤ a) (hn : g.nodes[a.toNat]? = some n) (hk : n.kind = 6) {i : Nat} {y : Int} (h1 : i % 2 = 1) (hi : n.kids[i]? = some y) {x : Node}
    (hx : g.nodes[(n.kids.getD (i - 1) 0).toNat]? = some x) : findR g a x.kind x.text = some y := by
  unfold findR
  rw [if_pos ⟨hr, ha⟩, hn]
  simp only [hk, if_true]
  obtain ⟨hi1, hi2⟩ := List.getElem?_eq_some_iff.1 hi
  have hp := pairs_at n.kids (i / 2) (by omega)
  have e1 : 2 * (i / 2) = i - 1 := by omega
  have e2 : 2 * (i / 2) + 1 = i := by omega
  simp only [e1, e2] at hp
  have hks := right_keys hr (List.mem_of_getElem? hn)
  unfold keysR at hks
  rw [if_pos hk, evens_pairs] at hks
  have hg := entF_get g (pairsL n.kids) [] hks _ hp
  have hkey : keyAt g n.kids[i - 1] = (x.kind, x.text) := by
    rw [List.getD_eq_getElem?_getD, List.getElem?_eq_getElem (show i - 1 < n.kids.length by omega)] at hx
    simp only [Option.getD_some] at hx
    simp [keyAt, hx]
  simp only [hkey] at hg
  unfold entR entF
  rw [hg]
  simp only [Option.map_some]
  have e3 : i - 1 + 1 = i := by omega
  simp only [e3, hi2]
/-! ### how far steps match -/
theorem freeF_inv (P : Nat → Prop) : ∀ (l : List Part) (i b : Nat), (∀ m, b.testBit m = true → P m) → (∀ j (hj : j < l.length), P (i + j) → l[j].kind = 3 → P (i + j + 1)) → ∀ m, (freeF l i b).testBit m = true → P m
  | [], i, b, hb, _, m, hm => hb m hm
  | x :: l, i, b, hb, hs, m, hm => by
    simp only [freeF] at hm
    refine freeF_inv P l (i + 1) _ (fun m hm => ?_) (fun j hj hp hk => ?_) m hm
    · split at hm
      · rename_i h1
        rw [Nat.testBit_or, Bool.or_eq_true, Nat.testBit_two_pow] at hm
        rcases hm with hm | hm
        · exact hb m hm
        · have : i + 1 = m := by simpa using hm
          subst this
          exact hs 0 (by simp) (hb i h1.1) h1.2
      · exact hb m hm
    · have := hs (j + 1) (by simp; omega)
      rw [show i + (j + 1) = i + 1 + j by omega] at this
      exact this hp hk
theorem freeR_inv (P : Nat → Prop) (l : List Part) (b : Nat) (hb : ∀ m, b.testBit m = true → P m) (hs : ∀ j (hj : j < l.length), P j → l[j].kind = 3 → P (j + 1)) : ∀ m, (freeR l b).testBit m = true → P m :=
  freeF_inv P l 0 b hb (fun j hj => by rw [Nat.zero_add]; exact hs j hj)
theorem nextF_inv (P : Nat → Prop) (one : Part → Bool) (bits : Nat) : ∀ (l : List Part) (i n : Nat), (∀ m, n.testBit m = true → P m) →
    (∀ j (hj : j < l.length), bits.testBit (i + j) = true → (l[j].kind = 3 → P (i + j)) ∧ (¬ l[j].kind = 3 → one l[j] = true → P (i + j + 1))) → ∀ m, (nextF one bits l i n).testBit m = true → P m
  | [], i, n, hn, _, m, hm => hn m hm
  | x :: l, i, n, hn, hs, m, hm => by
    simp only [nextF] at hm
    refine nextF_inv P one bits l (i + 1) _ (fun m hm => ?_) (fun j hj hb => ?_) m hm
    · have h0 := hs 0 (by simp)
      simp only [Nat.add_zero, List.getElem_cons_zero] at h0
      split at hm
      · exact hn m hm
      · rename_i h1
        have h1' : bits.testBit i = true := by simpa using h1
        split at hm
        · rename_i h2
          rw [Nat.testBit_or, Bool.or_eq_true, Nat.testBit_two_pow] at hm
          rcases hm with hm | hm
          · exact hn m hm
          · have : i = m := by simpa using hm
            subst this
            exact (h0 h1').1 h2
        · rename_i h2
          split at hm
          · rename_i h3
            rw [Nat.testBit_or, Bool.or_eq_true, Nat.testBit_two_pow] at hm
            rcases hm with hm | hm
            · exact hn m hm
            · have : i + 1 = m := by simpa using hm
              subst this
              exact (h0 h1').2 h2 h3
          · exact hn m hm
    · have := hs (j + 1) (by simp; omega)
      rw [show i + (j + 1) = i + 1 + j by omega] at this
      exact this hb
theorem stepR_zero (g : Graph) (l : List Part) (w : Step) (a : Int) : stepR g l 0 w a = 0 := by
  apply Nat.eq_of_testBit_eq
  intro m
  rw [Nat.zero_testBit]
  apply Bool.eq_false_iff.2
  intro h
  refine freeR_inv (fun _ => False) l _ (fun m hm => ?_) (fun j hj hp _ => hp) m h
  exact nextF_inv (fun _ => False) _ 0 l 0 0 (fun m hm => by simp at hm) (fun j hj hb => by simp at hb) m hm
/-! ### paths, walked -/
theorem walkR_snoc (g : Graph) : ∀ (l : List Step) (a : Int) (x : Step), walkR g a (l ++ [x]) = if (walkR g a l).2 = 0 then (if (stepTo g (walkR g a l).1 x).2 = 0 then ((stepTo g (walkR g a l).1 x).1, 0) else (0, (stepTo g (walkR g a l).1 x).2)) else walkR g a l
  | [], a, x => by
    have e : walkR g a [] = (a, 0) := rfl
    rw [e, if_pos rfl]
    rfl
  | y :: l, a, x => by
    simp only [List.cons_append, walkR]
    split
    · exact walkR_snoc g l _ x
    · rename_i h; simp [h]
structure Led (g : Graph) (a : Int) (way : List Step) : Prop where
  lo : 0 ≤ a
  hi : a < g.nodes.length
  short : way.length ≤ 64
  good : ∀ x ∈ way, longS x = false ∧ badS x = false
  walk : walkR g g.root way = (a, 0)
theorem pathE_of {way : List Step} (hs : way.length ≤ 64) (h : ∀ x ∈ way, longS x = false ∧ badS x = false) : pathE way = 0 := by
  unfold pathE
  rw [if_neg (by omega), if_neg, if_neg]
  · intro hc
    obtain ⟨x, h1, h2⟩ := List.any_eq_true.1 hc
    rw [(h x h1).2] at h2; cases h2
  · intro hc
    obtain ⟨x, h1, h2⟩ := List.any_eq_true.1 hc
    rw [(h x h1).1] at h2; cases h2
theorem Led.get {g : Graph} (hr : rightR g = true) {a : Int} {way : List Step} (h : Led g a way) : getR g way = (a, 0) := by
  unfold getR
  rw [if_pos ⟨pathE_of h.short h.good, hr⟩]
  exact h.walk
theorem Led.root {g : Graph} (hr : rightR g = true) : Led g g.root [] := by
  obtain ⟨_, h1, h2, _⟩ := right_parts hr
  exact ⟨h1, h2, by simp, by simp, rfl⟩
theorem key_good {g : Graph} (hr : rightR g = true) {x : Node} (hx : x ∈ g.nodes) (hk : x.kind = 4) : keyE x.text = 0 := by
  have h := (right_parts hr).2.2.2 x hx
  unfold isNodeR at h
  split at h
  · cases h
  · rename_i h1
    have h2 : isTextR x.kind x.text = true := by
      cases h3 : isTextR x.kind x.text with
      | true => rfl
      | false => exact absurd (.inr (.inr h3)) h1
    have h4 : decOk x.text = true := by
      unfold isTextR at h2
      rw [if_neg (by omega), if_pos hk] at h2
      exact h2
    unfold keyE dblE
    rw [h4]
    simp
theorem Led.kid {g : Graph} (hr : rightR g = true) (hm : ∀ n ∈ g.nodes, n.kids.length ≤ 1000000) {a : Int} {way : List Step} (h : Led g a way) {n : Node} (hn : g.nodes[a.toNat]? = some n) {i : Nat} {k : Int} (hk : n.kids[i]? = some k) {w : Step} (hw : kidW g n i = some w) (hl : way.length < 64) : Led g k (way ++ [w]) := by
  have hmem := List.mem_of_getElem? hn
  obtain ⟨k0, k1⟩ := isNode_kids ((right_parts hr).2.2.2 n hmem) k (List.mem_of_getElem? hk)
  have hil : i < n.kids.length := (List.getElem?_eq_some_iff.1 hk).1
  have hml := hm n hmem
  have hst : (longS w = false ∧ badS w = false) ∧ (n.kind = 6 ∨ n.kind = 5 → stepTo g a w = (k, 0)) := by
    unfold kidW at hw
    split at hw
    · rename_i h6
      split at hw
      · cases hw
      · rename_i hi2
        split at hw
        · rename_i x hx
          split at hw
          · rename_i hc
            injection hw with hw; subst hw
            refine ⟨⟨by simp [longS]; omega, by simp [badS, key_good hr (List.mem_of_getElem? hx) hc.1]⟩, fun _ => ?_⟩
            have hf := findR_kid hr h.lo hn h6 (by omega) hk hx
            rw [hc.1] at hf
            simp [stepTo, hn, h6, hf]
          · cases hw
        · cases hw
    · rename_i h6
      injection hw with hw; subst hw
      refine ⟨⟨by simp [longS]; omega, by simp [badS]⟩, fun h5 => ?_⟩
      have h5 : n.kind = 5 := by omega
      simp only [stepTo, hn, h5, if_true, Int.toNat_natCast, hk]
  have hkind : n.kind = 6 ∨ n.kind = 5 := by
    have h1 := (right_parts hr).2.2.2 n hmem
    unfold isNodeR at h1
    split at h1
    · cases h1
    · rename_i h2
      split at h1
      · cases h1
      · rename_i h3
        have h4 : ¬ isScalarR n.kind = true := fun hc => h3 (.inl ⟨hc, by omega⟩)
        unfold isScalarR at h4
        simp at h4
        have h5 : ¬ n.kind < 1 := fun hc => h2 (.inl hc)
        have h6 : ¬ 6 < n.kind := fun hc => h2 (.inr (.inl hc))
        omega
  refine ⟨k0, k1, by simp; omega, fun x hx => ?_, ?_⟩
  · rcases List.mem_append.1 hx with hx | hx
    · exact h.good x hx
    · rw [List.mem_singleton.1 hx]; exact hst.1
  · rw [walkR_snoc, h.walk]
    simp [hst.2 hkind]
theorem goR_app (g : Graph) (l : List Part) (way : List Step) (w : Step) : ∀ i, i ≤ way.length → goR g l (way ++ [w]) i = goR g l way i
  | 0, _ => rfl
  | i + 1, hi => by
    have h1 : (way ++ [w])[i]? = way[i]? := List.getElem?_append_left (by omega)
    have h2 : (way ++ [w]).take (i + 1) = way.take (i + 1) := List.take_append_of_le_length hi
    simp only [goR, h1, h2, goR_app g l way w i (by omega)]
def goW (g : Graph) (l : List Part) (way : List Step) : Nat := goR g l way way.length
theorem goW_snoc {g : Graph} (hr : rightR g = true) (l : List Part) {way : List Step} {w : Step} {k : Int} (h : Led g k (way ++ [w])) : goW g l (way ++ [w]) = stepR g l (goW g l way) w k := by
  unfold goW
  simp only [List.length_append, List.length_singleton, goR]
  have h1 : (way ++ [w])[way.length]? = some w := by simp
  have h2 : (way ++ [w]).take (way.length + 1) = way ++ [w] := List.take_of_length_le (by simp)
  rw [h1, h2, h.get hr]
  simp only [goR_app g l way w way.length (Nat.le_refl _)]
/-! ### all simple paths -/
def kidP (rec : Int → List Step → List (List Step)) (g : Graph) (n : Node) (way : List Step) (met : List Bool) (i : Nat) (k : Int) : List (List Step) :=
  match kidW g n i with
  | none => []
  | some w => if met.getD k.toNat false = false then rec k (way ++ [w]) else []
def kidsP (rec : Int → List Step → List (List Step)) (g : Graph) (n : Node) (way : List Step) (met : List Bool) : List Int → Nat → List (List Step)
  | [], _ => []
  | k :: ks, i => kidP rec g n way met i k ++ kidsP rec g n way met ks (i + 1)
def pathsF (g : Graph) : Nat → Int → List Step → List Bool → List (List Step)
  | 0, _, way, _ => [way]
  | f + 1, a, way, met => way :: match g.nodes[a.toNat]? with
    | none => []
    | some n => kidsP (fun k w => pathsF g f k w (met.set a.toNat true)) g n way (met.set a.toNat true) n.kids 0
theorem kidsP_mem {rec : Int → List Step → List (List Step)} {g : Graph} {n : Node} {way : List Step} {met : List Bool} {v : List Step} : ∀ {ks : List Int} {i : Nat}, (∀ j k, ks[j]? = some k → n.kids[i + j]? = some k) → v ∈ kidsP rec g n way met ks i → ∃ j k w, n.kids[j]? = some k ∧ kidW g n j = some w ∧ met.getD k.toNat false = false ∧ v ∈ rec k (way ++ [w])
  | [], i, _, h => by cases h
  | k :: ks, i, hk, h => by
    simp only [kidsP, List.mem_append] at h
    rcases h with h | h
    · unfold kidP at h
      split at h
      · cases h
      · rename_i w hw
        split at h
        · rename_i hm
          exact ⟨i, k, w, by simpa using hk 0 k rfl, hw, hm, h⟩
        · cases h
    · exact kidsP_mem (fun j k' hj => by rw [show i + 1 + j = i + (j + 1) by omega]; exact hk (j + 1) k' hj) h
theorem pathsF_ind {g : Graph} (P : Int → List Step → List Bool → Prop) (hstep : ∀ a way met n i k w, P a way met → way.length < 64 → g.nodes[a.toNat]? = some n → n.kids[i]? = some k → kidW g n i = some w → (met.set a.toNat true).getD k.toNat false = false → P k (way ++ [w]) (met.set a.toNat true)) :
    ∀ (f : Nat) (a : Int) (way : List Step) (met : List Bool), f + way.length ≤ 64 → P a way met → ∀ v ∈ pathsF g f a way met, ∃ a' met', P a' v met'
  | 0, a, way, met, _, hp, v, hv => by
    simp only [pathsF, List.mem_singleton] at hv
    subst hv; exact ⟨_, _, hp⟩
  | f + 1, a, way, met, hf, hp, v, hv => by
    simp only [pathsF, List.mem_cons] at hv
    rcases hv with rfl | hv
    · exact ⟨_, _, hp⟩
    · split at hv
      · cases hv
      · rename_i n hn
        obtain ⟨j, k, w, h1, h2, h3, h4⟩ := kidsP_mem (fun j k hj => by rw [Nat.zero_add]; exact hj) hv
        exact pathsF_ind P hstep f k (way ++ [w]) _ (by simp; omega) (hstep a way met n j k w hp (by omega) hn h1 h2 h3) v h4
/-! ### what is found -/
theorem kidsF_le {rec : Int → List Step → Nat → FS → FS} (hrec : ∀ k w b s, (rec k w b s).1 ≤ s.1) (g : Graph) (l : List Part) (n : Node) (way : List Step) (bits : Nat) (met : List Bool) : ∀ (ks : List Int) (i : Nat) (s : FS), (kidsF rec g l n way bits met ks i s).1 ≤ s.1
  | [], _, s => Int.le_refl _
  | k :: ks, i, s => by
    simp only [kidsF]
    refine Int.le_trans (kidsF_le hrec g l n way bits met ks (i + 1) _) ?_
    unfold kidF
    split
    · exact Int.le_refl _
    · split
      · exact hrec _ _ _ _
      · exact Int.le_refl _
theorem toF_le (g : Graph) (l : List Part) : ∀ (f : Nat) (a : Int) (way : List Step) (bits : Nat) (met : List Bool) (s : FS), (toF g l f a way bits met s).1 ≤ s.1 - 1
  | 0, a, way, bits, met, s => Int.le_refl _
  | f + 1, a, way, bits, met, s => by
    simp only [toF]
    split
    · exact Int.le_refl _
    · split
      · exact Int.le_refl _
      · exact kidsF_le (fun k w b s => Int.le_trans (toF_le g l f k w b _ s) (by omega)) _ _ _ _ _ _ _ _ _
theorem topF_ge {l : List Part} {way : List Step} {bits : Nat} {s : FS} (h : 0 ≤ (topF l way bits s).1) : (topF l way bits s).2 = s.2 ++ [way].filter (fun _ => bits.testBit l.length) := by
  unfold topF at h ⊢
  simp only at h ⊢
  cases hb : bits.testBit l.length with
  | true => rw [if_pos ⟨by omega, rfl⟩]; simp
  | false => rw [if_neg (fun hc => by cases hc.2)]; simp
def isIn (g : Graph) (l : List Part) (w : List Step) : Bool := (goW g l w).testBit l.length
theorem prefix_zero {g : Graph} (hr : rightR g = true) (hm : ∀ n ∈ g.nodes, n.kids.length ≤ 1000000) (l : List Part) {f : Nat} {a : Int} {way : List Step} {met : List Bool} (hf : f + way.length ≤ 64) (hl : Led g a way) (hb : goW g l way = 0) : ∀ v ∈ pathsF g f a way met, isIn g l v = false := by
  intro v hv
  obtain ⟨a', met', h1, h2⟩ := pathsF_ind (g := g) (fun a w _ => Led g a w ∧ goW g l w = 0) (fun a way met n i k w hp hlt hn hk hw hmt => by
    have hl2 := hp.1.kid hr hm hn hk hw hlt
    exact ⟨hl2, by rw [goW_snoc hr l hl2, hp.2, stepR_zero]⟩) f a way met hf ⟨hl, hb⟩ v hv
  unfold isIn
  rw [h2, Nat.zero_testBit]
theorem toF_paths {g : Graph} (hr : rightR g = true) (hm : ∀ n ∈ g.nodes, n.kids.length ≤ 1000000) (l : List Part) : ∀ (f : Nat) (a : Int) (way : List Step) (met : List Bool) (s : FS), f + way.length ≤ 64 → Led g a way → 0 ≤ (toF g l f a way (goW g l way) met s).1 →
    (toF g l f a way (goW g l way) met s).2 = s.2 ++ (pathsF g f a way met).filter (isIn g l)
  | 0, a, way, met, s, hf, hl, h0 => by
    simp only [toF, pathsF] at h0 ⊢
    rw [topF_ge h0]
    rfl
  | f + 1, a, way, met, s, hf, hl, h0 => by
    have hz := prefix_zero (met := met) hr hm l hf hl
    simp only [toF] at h0 ⊢
    split at h0
    · rename_i h1
      have hb : goW g l way = 0 := h1.resolve_left (by omega)
      rw [if_pos h1, topF_ge h0]
      congr 1
      have e : (pathsF g (f + 1) a way met).filter (isIn g l) = [] := List.filter_eq_nil_iff.2 fun v hv => by rw [hz hb v hv]; decide
      rw [e, hb]
      simp
    · rename_i h1
      rw [if_neg h1]
      have hlt : way.length < 64 := by omega
      have ht : 0 ≤ (topF l way (goW g l way) s).1 := by
        have : ¬ (topF l way (goW g l way) s).1 < 0 := fun hc => h1 (.inl hc)
        omega
      simp only [pathsF]
      cases hn : g.nodes[a.toNat]? with
      | none =>
        simp only [topF_ge ht]
        rfl
      | some n =>
        rw [hn] at h0
        simp only at h0 ⊢
        have key : ∀ (ks : List Int) (i : Nat) (s : FS), (∀ j k, ks[j]? = some k → n.kids[i + j]? = some k) → 0 ≤ (kidsF (fun k w b s => toF g l f k w b (met.set a.toNat true) s) g l n way (goW g l way) (met.set a.toNat true) ks i s).1 →
            (kidsF (fun k w b s => toF g l f k w b (met.set a.toNat true) s) g l n way (goW g l way) (met.set a.toNat true) ks i s).2 = s.2 ++ (kidsP (fun k w => pathsF g f k w (met.set a.toNat true)) g n way (met.set a.toNat true) ks i).filter (isIn g l) := by
          intro ks
          induction ks with
          | nil => intro i s _ _; simp [kidsF, kidsP]
          | cons k ks ih =>
            intro i s hk h0
            have hk' : ∀ j k', ks[j]? = some k' → n.kids[i + 1 + j]? = some k' := fun j k' hj => by rw [show i + 1 + j = i + (j + 1) by omega]; exact hk (j + 1) k' hj
            have hki : n.kids[i]? = some k := by simpa using hk 0 k rfl
            simp only [kidsF] at h0 ⊢
            simp only [kidsP, List.filter_append]
            rw [ih _ _ hk' h0, ← List.append_assoc]
            congr 1
            have h1 := Int.le_trans h0 (kidsF_le (fun k w b s => Int.le_trans (toF_le g l f k w b _ s) (by omega)) _ _ _ _ _ _ _ _ _)
            clear ih h0 hk hk'
            unfold kidF kidP at *
            cases hw : kidW g n i with
            | none => simp
            | some w =>
              rw [hw] at h1
              simp only at h1 ⊢
              have hl2 := hl.kid hr hm hn hki hw hlt
              by_cases c : (met.set a.toNat true).getD k.toNat false = false
              · rw [if_pos c]
                by_cases c2 : 0 ≤ s.1
                · rw [if_pos ⟨c, c2⟩] at h1 ⊢
                  rw [← goW_snoc hr l hl2] at h1 ⊢
                  exact toF_paths hr hm l f k (way ++ [w]) _ s (by simp; omega) hl2 h1
                · rw [if_neg (fun hc => c2 hc.2)] at h1
                  exact absurd h1 c2
              · rw [if_neg c, if_neg (fun hc => c hc.1)]; simp
        rw [key n.kids 0 _ (fun j k hj => by rw [Nat.zero_add]; exact hj) h0, topF_ge ht, List.append_assoc]
        congr 1
        simp only [List.filter_cons, List.filter_nil]
        have e : isIn g l way = (goW g l way).testBit l.length := rfl
        rw [e]
        split <;> simp
end Go.Eng.Tryz
