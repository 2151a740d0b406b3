/- The law QueryMeet of package grommetlaw24 answers true and turns no argument, for all arguments that are together of bulk at most 1048576; condition: the listed package variables start as the program's text lays them. (part 17.) -/
import Derived.Test.YthcjadhoplakcaaGreatDoorMeet16
set_option linter.unusedSimpArgs false
set_option linter.unusedVariables false
set_option maxRecDepth 20000
set_option maxHeartbeats 1000000
namespace Go.Eng.Tryz
open Go.Eng Go.Proofs Go.RowKit
def meetR (a b : List Part) : Bool × Int := if fmtE a = 0 ∧ fmtE b = 0 then (reachAt a b 0 0, 0) else (false, 1)
theorem fmtE_len {l : List Part} (h : fmtE l = 0) : l.length ≤ 32 := by
  unfold fmtE at h
  split at h
  · cases h
  · split at h
    · cases h
    · rename_i h2
      have : ¬ 32 < l.length := fun c => h2 (.inl c)
      omega
theorem Meet_ok (a b : List Part) (ha : a.length < 1099511627776) (hb : b.length < 1099511627776) : Puv 25 [parts a, parts b] (.tup [.bool (meetR a b).1, .int .i64 (meetR a b).2]) := by
  refine pv ok25 (by simp [AV.clL, cl_parts]) rfl fun h => ?_
  have hfa := FormatQ_ok a ha
  have hfb := FormatQ_ok b hb
  unfold parts at hfa hfb
  generalize hR : meetR a b = r
  unfold meetR at hR
  by_cases c1 : fmtE a = 0
  · rw [c1] at hfa
    by_cases c2 : fmtE b = 0
    · rw [c2] at hfb
      rw [if_pos ⟨c1, c2⟩] at hR
      obtain ⟨q, hq⟩ : ∃ q, reachAt a b 0 0 = q := ⟨_, rfl⟩
      have e1 : r.1 = q := by rw [← hR]; exact hq
      have e2 : r.2 = 0 := by rw [← hR]
      clear hR
      have hto := fun (h1 : H) (hT : IsT h1 (h.next + 1) h.next a b []) => to_ok a b (fmtE_len c1) (fmtE_len c2) (h.next + 1) h.next (a.length + b.length + 1) 0 0 (by omega) (by omega) (by omega) h1 [] hT (fun i' j' hq => by cases hq)
      rw [show ((0 : Nat) : Int) = 0 from rfl] at hto
      repeat' (first
        | (simp (disch := omega) [go_sem, S25, parts, *])
        | (omega)
        | (with_reducible refine Br_dec (fun hp => ?_) (fun hp => ?_))
        | (with_reducible refine Br_not ?_)
        | (with_reducible refine Br_bool (fun hp => ?_) (fun hp => ?_))
        | (with_reducible refine bG_dec (fun hp => ?_) (fun hp => ?_))
        | (with_reducible refine bG_bool' (fun hp => ?_) (fun hp => ?_))
        | (refine bC_pure hfa fun v hv => ?_; obtain ⟨t, rfl⟩ := hv)
        | (refine bC_pure hfb fun v hv => ?_; obtain ⟨t, rfl⟩ := hv)
        | (refine bC_spec (hto _ ⟨⟨110, some 0, by simp (disch := omega) [go_sem, parts]⟩, by simp (disch := omega) [go_sem, encM], by simp [go_sem] <;> omega, by simp [go_sem] <;> omega, by omega⟩) fun v h2 hv => ?_; have hv1 := hv.1; rw [hq] at hv1; clear hv)
        | ((with_reducible refine Go_regD _ _ ?hn ?_); case hn => rfl)
        | ((with_reducible refine Go_regN _ _ ?hn ?_); case hn => rfl)
        | (with_reducible refine dE_some ?_ ?_)
        | (with_reducible refine dN_some ?_ ?_)
        | (with_reducible refine dN_some' ?_ ?_)
        | ((with_reducible refine Rd_dG ?hn _ _ _ _ _ ?_); case hn => rfl)
        | (with_reducible refine dG_dec (fun hp => ?_) (fun hp => ?_))
        | (with_reducible refine dG_bool' (fun hp => ?_) (fun hp => ?_))
        | (with_reducible refine Rd_nil' ?_))
    · have e : r = (false, 1) := by rw [← hR, if_neg (fun h => c2 h.2)]
      repeat' (first
        | (simp (disch := omega) [go_sem, S25, parts, *])
        | (omega)
        | (with_reducible refine Br_dec (fun hp => ?_) (fun hp => ?_))
        | (with_reducible refine Br_not ?_)
        | (with_reducible refine Br_bool (fun hp => ?_) (fun hp => ?_))
        | (with_reducible refine bG_dec (fun hp => ?_) (fun hp => ?_))
        | (with_reducible refine bG_bool' (fun hp => ?_) (fun hp => ?_))
        | (refine bC_pure hfa fun v hv => ?_; obtain ⟨t, rfl⟩ := hv)
        | (refine bC_pure hfb fun v hv => ?_; obtain ⟨t, rfl⟩ := hv)
        | ((with_reducible refine Go_regD _ _ ?hn ?_); case hn => rfl)
        | ((with_reducible refine Go_regN _ _ ?hn ?_); case hn => rfl)
        | (with_reducible refine dE_some ?_ ?_)
        | (with_reducible refine dN_some ?_ ?_)
        | (with_reducible refine dN_some' ?_ ?_)
        | ((with_reducible refine Rd_dG ?hn _ _ _ _ _ ?_); case hn => rfl)
        | (with_reducible refine dG_dec (fun hp => ?_) (fun hp => ?_))
        | (with_reducible refine dG_bool' (fun hp => ?_) (fun hp => ?_))
        | (with_reducible refine Rd_nil' ?_))
  · have e : r = (false, 1) := by rw [← hR, if_neg (fun h => c1 h.1)]
    repeat' (first
      | (simp (disch := omega) [go_sem, S25, parts, *])
      | (omega)
      | (with_reducible refine Br_dec (fun hp => ?_) (fun hp => ?_))
      | (with_reducible refine Br_not ?_)
      | (with_reducible refine Br_bool (fun hp => ?_) (fun hp => ?_))
      | (with_reducible refine bG_dec (fun hp => ?_) (fun hp => ?_))
      | (with_reducible refine bG_bool' (fun hp => ?_) (fun hp => ?_))
      | (refine bC_pure hfa fun v hv => ?_; obtain ⟨t, rfl⟩ := hv)
      | ((with_reducible refine Go_regD _ _ ?hn ?_); case hn => rfl)
      | ((with_reducible refine Go_regN _ _ ?hn ?_); case hn => rfl)
      | (with_reducible refine dE_some ?_ ?_)
      | (with_reducible refine dN_some ?_ ?_)
      | (with_reducible refine dN_some' ?_ ?_)
      | ((with_reducible refine Rd_dG ?hn _ _ _ _ _ ?_); case hn => rfl)
      | (with_reducible refine dG_dec (fun hp => ?_) (fun hp => ?_))
      | (with_reducible refine dG_bool' (fun hp => ?_) (fun hp => ?_))
      | (with_reducible refine Rd_nil' ?_))
end Go.Eng.Tryz
set_option maxRecDepth 20000
set_option maxHeartbeats 1000000
namespace Go.Eng.Tryz
open Go.Eng Go.Proofs Go.RowKit
/-! ### keys and their values -/
theorem keysOkR_spec (g : Graph) : ∀ (ks : List Int) (m : List ((Int × List Nat) × Bool)), keysOkR g ks m = true → (∀ k ∈ ks, isScalarR (keyAt g k).1 = true ∧ wasA (keyAt g k) m = false) ∧ ks.Pairwise (fun a b => keyAt g a ≠ keyAt g b)
  | [], m, _ => ⟨by simp, .nil⟩
  | k :: ks, m, h => by
    simp only [keysOkR] at h
    split at h
    · rename_i h1
      simp only [Bool.and_eq_true, Bool.not_eq_true'] at h1
      obtain ⟨h2, h3⟩ := keysOkR_spec g ks _ h
      refine ⟨fun x hx => ?_, .cons (fun x hx he => ?_) h3⟩
      · rcases List.mem_cons.1 hx with e | hx
        · subst e; exact h1
        · refine ⟨(h2 x hx).1, ?_⟩
          have h4 := (h2 x hx).2
          unfold wasA at h4 ⊢
          rw [getA_put] at h4
          split at h4
          · cases h4
          · exact h4
      · have h4 := (h2 x hx).2
        unfold wasA at h4
        rw [getA_put, if_pos he.symm] at h4
        cases h4
    · cases h
theorem evens_pairs : ∀ l : List Int, evens l = (pairsL l).map (·.1)
  | [] => rfl
  | [a] => rfl
  | a :: b :: l => by simp only [evens, pairsL, List.map_cons, evens_pairs l]
theorem pairs_at : ∀ (l : List Int) (j : Nat) (h : 2 * j + 1 < l.length), (l[2 * j], l[2 * j + 1]) ∈ pairsL l
  | [], j, h => by simp at h
  | [a], j, h => by simp at h
  | a :: b :: l, 0, h => by simp [pairsL]
  | a :: b :: l, j + 1, h => by
    have := pairs_at l j (by simp at h; omega)
    simp only [pairsL]
    refine List.mem_cons_of_mem _ ?_
    have e1 : 2 * (j + 1) = 2 * j + 1 + 1 := by omega
    have e2 : 2 * (j + 1) + 1 = 2 * j + 1 + 1 + 1 := by omega
    simp only [e1, List.getElem_cons_succ]
    exact this
theorem entF_not (g : Graph) : ∀ (l : List (Int × Int)) (m : List ((Int × List Nat) × (Int × Int))) (k : Int × List Nat), (∀ p ∈ l, keyAt g p.1 ≠ k) → getA k (l.foldl (fun m p => putA (keyAt g p.1) p m) m) = getA k m
  | [], m, k, _ => rfl
  | x :: l, m, k, h => by
    simp only [List.foldl_cons]
    rw [entF_not g l _ k (fun p hp => h p (List.mem_cons_of_mem _ hp)), getA_put, if_neg (fun e => h x List.mem_cons_self e.symm)]
theorem entF_get (g : Graph) : ∀ (l : List (Int × Int)) (m : List ((Int × List Nat) × (Int × Int))), (l.map (·.1)).Pairwise (fun a b => keyAt g a ≠ keyAt g b) → ∀ p ∈ l, getA (keyAt g p.1) (l.foldl (fun m p => putA (keyAt g p.1) p m) m) = some p
  | [], m, _, p, hp => by cases hp
  | x :: l, m, h, p, hp => by
    simp only [List.map_cons, List.pairwise_cons] at h
    simp only [List.foldl_cons]
    rcases List.mem_cons.1 hp with e | hp
    · subst e
      rw [entF_not g l _ _ (fun q hq => fun e => h.1 q.1 (List.mem_map.2 ⟨q, hq, rfl⟩) e.symm), getA_put, if_pos rfl]
    · exact entF_get g l _ h.2 p hp
theorem right_keys {g : Graph} (hr : rightR g = true) {n : Node} (hn : n ∈ g.nodes) : (keysR n).Pairwise (fun a b => keyAt g a ≠ keyAt g b) := by
  have h := (right_parts hr).2.2.2 n hn
  unfold isNodeR at h
  split at h
  · cases h
  · split at h
    · cases h
    · split at h
      · cases h
      · exact (keysOkR_spec g _ _ h).2
theorem findR_kid {g : Graph} (hr : rightR g = true) {a : Int} {n : Node} (ha : 0 ≤ a) (hn : g.nodes[a.toNat]? = some n) (hk : n.kind = 6) {i : Nat} {y : Int} (h1 : i % 2 = 1) (hi : n.kids[i]? = some y) {x : Node}
    (hx : g.nodes[(n.kids.getD (i - 1) 0).toNat]? = some x) : findR g a x.kind x.text = some y := by
  unfold findR
  rw [if_pos ⟨hr, ha⟩, hn]
  simp only [hk, if_true]
  obtain ⟨hi1, hi2⟩ := List.getElem?_eq_some_iff.1 hi
  have hp := pairs_at n.kids (i / 2) (by omega)
  have e1 : 2 * (i / 2) = i - 1 := by omega
  have e2 : 2 * (i / 2) + 1 = i := by omega
  simp only [e1, e2] at hp
  have hks := right_keys hr (List.mem_of_getElem? hn)
  unfold keysR at hks
  rw [if_pos hk, evens_pairs] at hks
  have hg := entF_get g (pairsL n.kids) [] hks _ hp
  have hkey : keyAt g n.kids[i - 1] = (x.kind, x.text) := by
    rw [List.getD_eq_getElem?_getD, List.getElem?_eq_getElem (show i - 1 < n.kids.length by omega)] at hx
    simp only [Option.getD_some] at hx
    simp [keyAt, hx]
  simp only [hkey] at hg
  unfold entR entF
  rw [hg]
  simp only [Option.map_some]
  have e3 : i - 1 + 1 = i := by omega
  simp only [e3, hi2]
/-! ### how far steps match -/
theorem freeF_inv (P : Nat → Prop) : ∀ (l : List Part) (i b : Nat), (∀ m, b.testBit m = true → P m) → (∀ j (hj : j < l.length), P (i + j) → l[j].kind = 3 → P (i + j + 1)) → ∀ m, (freeF l i b).testBit m = true → P m
  | [], i, b, hb, _, m, hm => hb m hm
  | x :: l, i, b, hb, hs, m, hm => by
    simp only [freeF] at hm
    refine freeF_inv P l (i + 1) _ (fun m hm => ?_) (fun j hj hp hk => ?_) m hm
    · split at hm
      · rename_i h1
        rw [Nat.testBit_or, Bool.or_eq_true, Nat.testBit_two_pow] at hm
        rcases hm with hm | hm
        · exact hb m hm
        · have : i + 1 = m := by simpa using hm
          subst this
          exact hs 0 (by simp) (hb i h1.1) h1.2
      · exact hb m hm
    · have := hs (j + 1) (by simp; omega)
      rw [show i + (j + 1) = i + 1 + j by omega] at this
      exact this hp hk
theorem freeR_inv (P : Nat → Prop) (l : List Part) (b : Nat) (hb : ∀ m, b.testBit m = true → P m) (hs : ∀ j (hj : j < l.length), P j → l[j].kind = 3 → P (j + 1)) : ∀ m, (freeR l b).testBit m = true → P m :=
  freeF_inv P l 0 b hb (fun j hj => by rw [Nat.zero_add]; exact hs j hj)
theorem nextF_inv (P : Nat → Prop) (one : Part → Bool) (bits : Nat) : ∀ (l : List Part) (i n : Nat), (∀ m, n.testBit m = true → P m) →
    (∀ j (hj : j < l.length), bits.testBit (i + j) = true → (l[j].kind = 3 → P (i + j)) ∧ (¬ l[j].kind = 3 → one l[j] = true → P (i + j + 1))) → ∀ m, (nextF one bits l i n).testBit m = true → P m
  | [], i, n, hn, _, m, hm => hn m hm
  | x :: l, i, n, hn, hs, m, hm => by
    simp only [nextF] at hm
    refine nextF_inv P one bits l (i + 1) _ (fun m hm => ?_) (fun j hj hb => ?_) m hm
    · have h0 := hs 0 (by simp)
      simp only [Nat.add_zero, List.getElem_cons_zero] at h0
      split at hm
      · exact hn m hm
      · rename_i h1
        have h1' : bits.testBit i = true := by simpa using h1
        split at hm
        · rename_i h2
          rw [Nat.testBit_or, Bool.or_eq_true, Nat.testBit_two_pow] at hm
          rcases hm with hm | hm
          · exact hn m hm
          · have : i = m := by simpa using hm
            subst this
            exact (h0 h1').1 h2
        · rename_i h2
          split at hm
          · rename_i h3
            rw [Nat.testBit_or, Bool.or_eq_true, Nat.testBit_two_pow] at hm
            rcases hm with hm | hm
            · exact hn m hm
            · have : i + 1 = m := by simpa using hm
              subst this
              exact (h0 h1').2 h2 h3
          · exact hn m hm
    · have := hs (j + 1) (by simp; omega)
      rw [show i + (j + 1) = i + 1 + j by omega] at this
      exact this hb
theorem stepR_zero (g : Graph) (l : List Part) (w : Step) (a : Int) : stepR g l 0 w a = 0 := by
  apply Nat.eq_of_testBit_eq
  intro m
  rw [Nat.zero_testBit]
  apply Bool.eq_false_iff.2
  intro h
  refine freeR_inv (fun _ => False) l _ (fun m hm => ?_) (fun j hj hp _ => hp) m h
  exact nextF_inv (fun _ => False) _ 0 l 0 0 (fun m hm => by simp at hm) (fun j hj hb => by simp at hb) m hm
/-! ### paths, walked -/
theorem walkR_snoc (g : Graph) : ∀ (l : List Step) (a : Int) (x : Step), walkR g a (l ++ [x]) = if (walkR g a l).2 = 0 then (if (stepTo g (walkR g a l).1 x).2 = 0 then ((stepTo g (walkR g a l).1 x).1, 0) else (0, (stepTo g (walkR g a l).1 x).2)) else walkR g a l
  | [], a, x => by
    have e : walkR g a [] = (a, 0) := rfl
    rw [e, if_pos rfl]
    rfl
  | y :: l, a, x => by
    simp only [List.cons_append, walkR]
    split
    · exact walkR_snoc g l _ x
    · rename_i h; simp [h]
structure Led (g : Graph) (a : Int) (way : List Step) : Prop where
  lo : 0 ≤ a
  hi : a < g.nodes.length
  short : way.length ≤ 64
  good : ∀ x ∈ way, longS x = false ∧ badS x = false
  walk : walkR g g.root way = (a, 0)
theorem pathE_of {way : List Step} (hs : way.length ≤ 64) (h : ∀ x ∈ way, longS x = false ∧ badS x = false) : pathE way = 0 := by
  unfold pathE
  rw [if_neg (by omega), if_neg, if_neg]
  · intro hc
    obtain ⟨x, h1, h2⟩ := List.any_eq_true.1 hc
    rw [(h x h1).2] at h2; cases h2
  · intro hc
    obtain ⟨x, h1, h2⟩ := List.any_eq_true.1 hc
    rw [(h x h1).1] at h2; cases h2
theorem Led.get {g : Graph} (hr : rightR g = true) {a : Int} {way : List Step} (h : Led g a way) : getR g way = (a, 0) := by
  unfold getR
  rw [if_pos ⟨pathE_of h.short h.good, hr⟩]
  exact h.walk
theorem Led.root {g : Graph} (hr : rightR g = true) : Led g g.root [] := by
  obtain ⟨_, h1, h2, _⟩ := right_parts hr
  exact ⟨h1, h2, by simp, by simp, rfl⟩
theorem key_good {g : Graph} (hr : rightR g = true) {x : Node} (hx : x ∈ g.nodes) (hk : x.kind = 4) : keyE x.text = 0 := by
  have h := (right_parts hr).2.2.2 x hx
  unfold isNodeR at h
  split at h
  · cases h
  · rename_i h1
    have h2 : isTextR x.kind x.text = true := by
      cases h3 : isTextR x.kind x.text with
      | true => rfl
      | false => exact absurd (.inr (.inr h3)) h1
    have h4 : decOk x.text = true := by
      unfold isTextR at h2
      rw [if_neg (by omega), if_pos hk] at h2
      exact h2
    unfold keyE dblE
    rw [h4]
    simp
theorem Led.kid {g : Graph} (hr : rightR g = true) (hm : ∀ n ∈ g.nodes, n.kids.length ≤ 1000000) {a : Int} {way : List Step} (h : Led g a way) {n : Node} (hn : g.nodes[a.toNat]? = some n) {i : Nat} {k : Int} (hk : n.kids[i]? = some k) {w : Step} (hw : kidW g n i = some w) (hl : way.length < 64) : Led g k (way ++ [w]) := by
  have hmem := List.mem_of_getElem? hn
  obtain ⟨k0, k1⟩ := isNode_kids ((right_parts hr).2.2.2 n hmem) k (List.mem_of_getElem? hk)
  have hil : i < n.kids.length := (List.getElem?_eq_some_iff.1 hk).1
  have hml := hm n hmem
  have hst : (longS w = false ∧ badS w = false) ∧ (n.kind = 6 ∨ n.kind = 5 → stepTo g a w = (k, 0)) := by
    unfold kidW at hw
    split at hw
    · rename_i h6
      split at hw
      · cases hw
      · rename_i hi2
        split at hw
        · rename_i x hx
          split at hw
          · rename_i hc
            injection hw with hw; subst hw
            refine ⟨⟨by simp [longS]; omega, by simp [badS, key_good hr (List.mem_of_getElem? hx) hc.1]⟩, fun _ => ?_⟩
            have hf := findR_kid hr h.lo hn h6 (by omega) hk hx
            rw [hc.1] at hf
            simp [stepTo, hn, h6, hf]
          · cases hw
        · cases hw
    · rename_i h6
      injection hw with hw; subst hw
      refine ⟨⟨by simp [longS]; omega, by simp [badS]⟩, fun h5 => ?_⟩
      have h5 : n.kind = 5 := by omega
      simp only [stepTo, hn, h5, if_true, Int.toNat_natCast, hk]
  have hkind : n.kind = 6 ∨ n.kind = 5 := by
    have h1 := (right_parts hr).2.2.2 n hmem
    unfold isNodeR at h1
    split at h1
    · cases h1
    · rename_i h2
      split at h1
      · cases h1
      · rename_i h3
        have h4 : ¬ isScalarR n.kind = true := fun hc => h3 (.inl ⟨hc, by omega⟩)
        unfold isScalarR at h4
        simp at h4
        have h5 : ¬ n.kind < 1 := fun hc => h2 (.inl hc)
        have h6 : ¬ 6 < n.kind := fun hc => h2 (.inr (.inl hc))
        omega
  refine ⟨k0, k1, by simp; omega, fun x hx => ?_, ?_⟩
  · rcases List.mem_append.1 hx with hx | hx
    · exact h.good x hx
    · rw [List.mem_singleton.1 hx]; exact hst.1
  · rw [walkR_snoc, h.walk]
    simp [hst.2 hkind]
theorem goR_app (g : Graph) (l : List Part) (way : List Step) (w : Step) : ∀ i, i ≤ way.length → goR g l (way ++ [w]) i = goR g l way i
  | 0, _ => rfl
  | i + 1, hi => by
    have h1 : (way ++ [w])[i]? = way[i]? := List.getElem?_append_left (by omega)
    have h2 : (way ++ [w]).take (i + 1) = way.take (i + 1) := List.take_append_of_le_length hi
    simp only [goR, h1, h2, goR_app g l way w i (by omega)]
def goW (g : Graph) (l : List Part) (way : List Step) : Nat := goR g l way way.length
theorem goW_snoc {g : Graph} (hr : rightR g = true) (l : List Part) {way : List Step} {w : Step} {k : Int} (h : Led g k (way ++ [w])) : goW g l (way ++ [w]) = stepR g l (goW g l way) w k := by
  unfold goW
  simp only [List.length_append, List.length_singleton, goR]
  have h1 : (way ++ [w])[way.length]? = some w := by simp
  have h2 : (way ++ [w]).take (way.length + 1) = way ++ [w] := List.take_of_length_le (by simp)
  rw [h1, h2, h.get hr]
  simp only [goR_app g l way w way.length (Nat.le_refl _)]
/-! ### all simple paths -/
def kidP (rec : Int → List Step → List (List Step)) (g : Graph) (n : Node) (way : List Step) (met : List Bool) (i : Nat) (k : Int) : List (List Step) :=
  match kidW g n i with
  | none => []
  | some w => if met.getD k.toNat false = false then rec k (way ++ [w]) else []
def kidsP (rec : Int → List Step → List (List Step)) (g : Graph) (n : Node) (way : List Step) (met : List Bool) : List Int → Nat → List (List Step)
  | [], _ => []
  | k :: ks, i => kidP rec g n way met i k ++ kidsP rec g n way met ks (i + 1)
def pathsF (g : Graph) : Nat → Int → List Step → List Bool → List (List Step)
  | 0, _, way, _ => [way]
  | f + 1, a, way, met => way :: match g.nodes[a.toNat]? with
    | none => []
    | some n => kidsP (fun k w => pathsF g f k w (met.set a.toNat true)) g n way (met.set a.toNat true) n.kids 0
theorem kidsP_mem {rec : Int → List Step → List (List Step)} {g : Graph} {n : Node} {way : List Step} {met : List Bool} {v : List Step} : ∀ {ks : List Int} {i : Nat}, (∀ j k, ks[j]? = some k → n.kids[i + j]? = some k) → v ∈ kidsP rec g n way met ks i → ∃ j k w, n.kids[j]? = some k ∧ kidW g n j = some w ∧ met.getD k.toNat false = false ∧ v ∈ rec k (way ++ [w])
  | [], i, _, h => by cases h
  | k :: ks, i, hk, h => by
    simp only [kidsP, List.mem_append] at h
    rcases h with h | h
    · unfold kidP at h
      split at h
      · cases h
      · rename_i w hw
        split at h
        · rename_i hm
          exact ⟨i, k, w, by simpa using hk 0 k rfl, hw, hm, h⟩
        · cases h
    · exact kidsP_mem (fun j k' hj => by rw [show i + 1 + j = i + (j + 1) by omega]; exact hk (j + 1) k' hj) h
theorem pathsF_ind {g : Graph} (P : Int → List Step → List Bool → Prop) (hstep : ∀ a way met n i k w, P a way met → way.length < 64 → g.nodes[a.toNat]? = some n → n.kids[i]? = some k → kidW g n i = some w → (met.set a.toNat true).getD k.toNat false = false → P k (way ++ [w]) (met.set a.toNat true)) :
    ∀ (f : Nat) (a : Int) (way : List Step) (met : List Bool), f + way.length ≤ 64 → P a way met → ∀ v ∈ pathsF g f a way met, ∃ a' met', P a' v met'
  | 0, a, way, met, _, hp, v, hv => by
    simp only [pathsF, List.mem_singleton] at hv
    subst hv; exact ⟨_, _, hp⟩
  | f + 1, a, way, met, hf, hp, v, hv => by
    simp only [pathsF, List.mem_cons] at hv
    rcases hv with rfl | hv
    · exact ⟨_, _, hp⟩
    · split at hv
      · cases hv
      · rename_i n hn
        obtain ⟨j, k, w, h1, h2, h3, h4⟩ := kidsP_mem (fun j k hj => by rw [Nat.zero_add]; exact hj) hv
        exact pathsF_ind P hstep f k (way ++ [w]) _ (by simp; omega) (hstep a way met n j k w hp (by omega) hn h1 h2 h3) v h4
/-! ### what is found -/
theorem kidsF_le {rec : Int → List Step → Nat → FS → FS} (hrec : ∀ k w b s, (rec k w b s).1 ≤ s.1) (g : Graph) (l : List Part) (n : Node) (way : List Step) (bits : Nat) (met : List Bool) : ∀ (ks : List Int) (i : Nat) (s : FS), (kidsF rec g l n way bits met ks i s).1 ≤ s.1
  | [], _, s => Int.le_refl _
  | k :: ks, i, s => by
    simp only [kidsF]
    refine Int.le_trans (kidsF_le hrec g l n way bits met ks (i + 1) _) ?_
    unfold kidF
    split
    · exact Int.le_refl _
    · split
      · exact hrec _ _ _ _
      · exact Int.le_refl _
theorem toF_le (g : Graph) (l : List Part) : ∀ (f : Nat) (a : Int) (way : List Step) (bits : Nat) (met : List Bool) (s : FS), (toF g l f a way bits met s).1 ≤ s.1 - 1
  | 0, a, way, bits, met, s => Int.le_refl _
  | f + 1, a, way, bits, met, s => by
    simp only [toF]
    split
    · exact Int.le_refl _
    · split
      · exact Int.le_refl _
      · exact kidsF_le (fun k w b s => Int.le_trans (toF_le g l f k w b _ s) (by omega)) _ _ _ _ _ _ _ _ _
theorem topF_ge {l : List Part} {way : List Step} {bits : Nat} {s : FS} (h : 0 ≤ (topF l way bits s).1) : (topF l way bits s).2 = s.2 ++ [way].filter (fun _ => bits.testBit l.length) := by
  unfold topF at h ⊢
  simp only at h ⊢
  cases hb : bits.testBit l.length with
  | true => rw [if_pos ⟨by omega, rfl⟩]; simp
  | false => rw [if_neg (fun hc => by cases hc.2)]; simp
def isIn (g : Graph) (l : List Part) (w : List Step) : Bool := (goW g l w).testBit l.length
theorem prefix_zero {g : Graph} (hr : rightR g = true) (hm : ∀ n ∈ g.nodes, n.kids.length ≤ 1000000) (l : List Part) {f : Nat} {a : Int} {way : List Step} {met : List Bool} (hf : f + way.length ≤ 64) (hl : Led g a way) (hb : goW g l way = 0) : ∀ v ∈ pathsF g f a way met, isIn g l v = false := by
  intro v hv
  obtain ⟨a', met', h1, h2⟩ := pathsF_ind (g := g) (fun a w _ => Led g a w ∧ goW g l w = 0) (fun a way met n i k w hp hlt hn hk hw hmt => by
    have hl2 := hp.1.kid hr hm hn hk hw hlt
    exact ⟨hl2, by rw [goW_snoc hr l hl2, hp.2, stepR_zero]⟩) f a way met hf ⟨hl, hb⟩ v hv
  unfold isIn
  rw [h2, Nat.zero_testBit]
theorem toF_paths {g : Graph} (hr : rightR g = true) (hm : ∀ n ∈ g.nodes, n.kids.length ≤ 1000000) (l : List Part) : ∀ (f : Nat) (a : Int) (way : List Step) (met : List Bool) (s : FS), f + way.length ≤ 64 → Led g a way → 0 ≤ (toF g l f a way (goW g l way) met s).1 →
    (toF g l f a way (goW g l way) met s).2 = s.2 ++ (pathsF g f a way met).filter (isIn g l)
  | 0, a, way, met, s, hf, hl, h0 => by
    simp only [toF, pathsF] at h0 ⊢
    rw [topF_ge h0]
    rfl
  | f + 1, a, way, met, s, hf, hl, h0 => by
    have hz := prefix_zero (met := met) hr hm l hf hl
    simp only [toF] at h0 ⊢
    split at h0
    · rename_i h1
      have hb : goW g l way = 0 := h1.resolve_left (by omega)
      rw [if_pos h1, topF_ge h0]
      congr 1
      have e : (pathsF g (f + 1) a way met).filter (isIn g l) = [] := List.filter_eq_nil_iff.2 fun v hv => by rw [hz hb v hv]; decide
      rw [e, hb]
      simp
    · rename_i h1
      rw [if_neg h1]
      have hlt : way.length < 64 := by omega
      have ht : 0 ≤ (topF l way (goW g l way) s).1 := by
        have : ¬ (topF l way (goW g l way) s).1 < 0 := fun hc => h1 (.inl hc)
        omega
      simp only [pathsF]
      cases hn : g.nodes[a.toNat]? with
      | none =>
        simp only [topF_ge ht]
        rfl
      | some n =>
        rw [hn] at h0
        simp only at h0 ⊢
        have key : ∀ (ks : List Int) (i : Nat) (s : FS), (∀ j k, ks[j]? = some k → n.kids[i + j]? = some k) → 0 ≤ (kidsF (fun k w b s => toF g l f k w b (met.set a.toNat true) s) g l n way (goW g l way) (met.set a.toNat true) ks i s).1 →
            (kidsF (fun k w b s => toF g l f k w b (met.set a.toNat true) s) g l n way (goW g l way) (met.set a.toNat true) ks i s).2 = s.2 ++ (kidsP (fun k w => pathsF g f k w (met.set a.toNat true)) g n way (met.set a.toNat true) ks i).filter (isIn g l) := by
          intro ks
          induction ks with
          | nil => intro i s _ _; simp [kidsF, kidsP]
          | cons k ks ih =>
            intro i s hk h0
            have hk' : ∀ j k', ks[j]? = some k' → n.kids[i + 1 + j]? = some k' := fun j k' hj => by rw [show i + 1 + j = i + (j + 1) by omega]; exact hk (j + 1) k' hj
            have hki : n.kids[i]? = some k := by simpa using hk 0 k rfl
            simp only [kidsF] at h0 ⊢
            simp only [kidsP, List.filter_append]
            rw [ih _ _ hk' h0, ← List.append_assoc]
            congr 1
            have h1 := Int.le_trans h0 (kidsF_le (fun k w b s => Int.le_trans (toF_le g l f k w b _ s) (by omega)) _ _ _ _ _ _ _ _ _)
            clear ih h0 hk hk'
            unfold kidF kidP at *
            cases hw : kidW g n i with
            | none => simp
            | some w =>
              rw [hw] at h1
              simp only at h1 ⊢
              have hl2 := hl.kid hr hm hn hki hw hlt
              by_cases c : (met.set a.toNat true).getD k.toNat false = false
              · rw [if_pos c]
                by_cases c2 : 0 ≤ s.1
                · rw [if_pos ⟨c, c2⟩] at h1 ⊢
                  rw [← goW_snoc hr l hl2] at h1 ⊢
                  exact toF_paths hr hm l f k (way ++ [w]) _ s (by simp; omega) hl2 h1
                · rw [if_neg (fun hc => c2 hc.2)] at h1
                  exact absurd h1 c2
              · rw [if_neg c, if_neg (fun hc => c hc.1)]; simp
        rw [key n.kids 0 _ (fun j k hj => by rw [Nat.zero_add]; exact hj) h0, topF_ge ht, List.append_assoc]
        congr 1
        simp only [List.filter_cons, List.filter_nil]
        have e : isIn g l way = (goW g l way).testBit l.length := rfl
        rw [e]
        split <;> simp
end Go.Eng.Tryz
set_option maxRecDepth 20000
set_option maxHeartbeats 1000000
namespace Go.Eng.Tryz
open Go.Eng Go.Proofs Go.RowKit
def sumN (l : List Node) : Nat := (l.map fun x => min x.kids.length 500 + min x.text.length 2000).sum
def largeR (g : Graph) : Bool := (decide (40 < g.nodes.length) && decide (g.nodes.length ≤ 4096)) || decide (150 < sumN (g.nodes.take 40))
theorem sumN_snoc (l : List Node) (x : Node) : sumN (l ++ [x]) = sumN l + (min x.kids.length 500 + min x.text.length 2000) := by simp [sumN]
theorem evMin_int (k : IntKind) (a b : Int) : evMin (.int k a) (.int k b) = some (.int k (min a b)) := by
  unfold evMin
  simp only [if_true]
  congr 2
  split <;> omega
theorem evQ_mn2 {U : List (TypeId × TypeId)} {G : Nat → AV} {e : Env} {h : H} (x y : X) (k : IntKind) (a b : Int) (hx : x.ev G e = .int k a) (hy : y.ev G e = .int k b) : evQ U G (.mn [x, y]) e h = some (.int k (min a b)) := by
  simp [evQ, evs, hx, hy, foldO, evMin_int]
theorem large_ok (g : Graph) (hgn : g.nodes.length < 1073741824) : Puv 14 [g.av] (.bool (largeR g)) := by
  refine pv ok14 (by simp [AV.clL, cl_graph]) rfl fun h => ?_
  unfold largeR
  have hmn : min (g.nodes.length : Int) 40 = ((min g.nodes.length 40 : Nat) : Int) := by omega
  have hmn2 : (min (g.nodes.length : Int) 40).toNat = min g.nodes.length 40 := by omega
  have htk : g.nodes.take (min g.nodes.length 40) = g.nodes.take 40 := by
    rw [List.take_eq_take_iff]; omega
  have htl : (g.nodes.take 40).length ≤ 40 := by simp; omega
  obtain ⟨ns, hns⟩ : ∃ ns, g.nodes.take 40 = ns := ⟨_, rfl⟩
  repeat' (first
    | (simp (disch := omega) [go_sem, S14, Graph.av, Graph.cells, evQ_mn2, *])
    | (omega)
    | (with_reducible refine Br_dec (fun hp => ?_) (fun hp => ?_))
    | (with_reducible refine Br_not ?_)
    | (with_reducible refine Br_bool (fun hp => ?_) (fun hp => ?_))
    | (with_reducible refine bG_dec (fun hp => ?_) (fun hp => ?_))
    | (with_reducible refine bG_bool' (fun hp => ?_) (fun hp => ?_))
    | ((with_reducible refine Go_regD _ _ ?hn ?_); case hn => rfl)
    | ((with_reducible refine Go_regN _ _ ?hn ?_); case hn => rfl)
    | (with_reducible refine dE_some ?_ ?_)
    | (with_reducible refine dN_some ?_ ?_)
    | (with_reducible refine dN_some' ?_ ?_)
    | ((with_reducible refine Rd_dG ?hn _ _ _ _ _ ?_); case hn => rfl)
    | (with_reducible refine dG_dec (fun hp => ?_) (fun hp => ?_))
    | (with_reducible refine dG_bool' (fun hp => ?_) (fun hp => ?_))
    | (with_reducible refine Rd_nil' ?_))
  have hnl : min g.nodes.length 40 = ns.length := by rw [← hns]; simp [Nat.min_comm]
  have hnm : List.take (min g.nodes.length 40) (List.map Node.av g.nodes) = ns.map Node.av := by rw [← List.map_take, htk, hns]
  rw [hnm, hnl]
  rw [hns] at htl
  clear hmn hmn2 htk hnl hnm
  refine Go_loop (fun m e h1 => ∃ j : Nat, m = ns.length - j ∧ j ≤ ns.length ∧ e.get 14 = .int .i64 j ∧ e.get 13 = .int .i64 ns.length ∧ e.get 12 = .fsl false 3 (ns.map Node.av) ∧ e.get 3 = .int .i64 (sumN (ns.take j)) ∧ e.get 1 = .ptr h.next 0 ∧ h.next < h1.next ∧ h1.get h.next = some (.cells g.cells 24 (some 0))) (n := ns.length) ?_ ?_
  · refine ⟨0, ?_⟩
    simp (disch := omega) [go_sem, Graph.cells, sumN]
  · rintro m e h1 ⟨j, rfl, hj, q14, q13, q12, q3, q1, hn1, hgg⟩ Q hQ
    have hsb : ∀ l : List Node, sumN l ≤ 2500 * l.length := fun l => by
      induction l with
      | nil => simp [sumN]
      | cons x l ih => simp only [sumN, List.map_cons, List.sum_cons, List.length_cons] at ih ⊢; omega
    have hs0 := hsb (ns.take j)
    have hs1 : (ns.take j).length ≤ 40 := by simp; omega
    unfold Graph.cells at hgg
    by_cases hlt : j < ns.length
    · have hx : ns[j]? = some ns[j] := List.getElem?_eq_getElem hlt
      have hQ' : ∀ e' h', e'.get 14 = .int .i64 ((j : Int) + 1) → e'.get 13 = .int .i64 ns.length → e'.get 12 = .fsl false 3 (ns.map Node.av) → e'.get 3 = .int .i64 ((sumN (ns.take j) : Int) + (min (ns[j].kids.length : Int) 500 + min (ns[j].text.length : Int) 2000)) → e'.get 1 = .ptr h.next 0 → h1.next ≤ h'.next → h'.get h.next = h1.get h.next → Q e' h' :=
        fun e' h' r1 r2 r3 r4 r5 r6 r7 => hQ (ns.length - (j + 1)) e' h' (by omega) ⟨j + 1, rfl, by omega, r1, r2, r3, by rw [r4, take_snoc ns j hlt, sumN_snoc]; congr 1; omega, r5, by omega, by rw [r7]; unfold Graph.cells; exact hgg⟩
      clear hQ
      generalize sumN (ns.take j) = sj at *
      repeat' (first
        | (simp (disch := omega) [go_sem, S14, Node.av, Node.cells, ints, evQ_mn2, *])
        | (omega)
        | (with_reducible refine Br_dec (fun hp => ?_) (fun hp => ?_))
        | (with_reducible refine Br_not ?_)
        | (with_reducible refine Br_bool (fun hp => ?_) (fun hp => ?_))
        | (with_reducible refine bG_dec (fun hp => ?_) (fun hp => ?_))
        | (with_reducible refine bG_bool' (fun hp => ?_) (fun hp => ?_))
        | ((with_reducible refine Go_regD _ _ ?hn ?_); case hn => rfl)
        | ((with_reducible refine Go_regN _ _ ?hn ?_); case hn => rfl)
        | (with_reducible refine dE_some ?_ ?_)
        | (with_reducible refine dN_some ?_ ?_)
        | (with_reducible refine dN_some' ?_ ?_)
        | ((with_reducible refine Rd_dG ?hn _ _ _ _ _ ?_); case hn => rfl)
        | (with_reducible refine dG_dec (fun hp => ?_) (fun hp => ?_))
        | (with_reducible refine dG_bool' (fun hp => ?_) (fun hp => ?_))
        | (with_reducible refine Rd_nil' ?_))
      refine hQ' _ _ ?_ ?_ ?_ ?_ ?_ ?_ ?_ <;> first | (simp (disch := omega) [go_sem, *]; done) | (simp [go_sem]; omega)
    · rw [List.take_of_length_le (by omega)] at q3 hs0
      clear hQ
      have hs2 : sumN ns ≤ 100000 := by omega
      generalize sumN ns = sj at *
      repeat' (first
        | (simp (disch := omega) [go_sem, S14, Node.av, Node.cells, ints, evQ_mn2, *])
        | (omega)
        | (with_reducible refine Br_dec (fun hp => ?_) (fun hp => ?_))
        | (with_reducible refine Br_not ?_)
        | (with_reducible refine Br_bool (fun hp => ?_) (fun hp => ?_))
        | (with_reducible refine bG_dec (fun hp => ?_) (fun hp => ?_))
        | (with_reducible refine bG_bool' (fun hp => ?_) (fun hp => ?_))
        | ((with_reducible refine Go_regD _ _ ?hn ?_); case hn => rfl)
        | ((with_reducible refine Go_regN _ _ ?hn ?_); case hn => rfl)
        | (with_reducible refine dE_some ?_ ?_)
        | (with_reducible refine dN_some ?_ ?_)
        | (with_reducible refine dN_some' ?_ ?_)
        | ((with_reducible refine Rd_dG ?hn _ _ _ _ _ ?_); case hn => rfl)
        | (with_reducible refine dG_dec (fun hp => ?_) (fun hp => ?_))
        | (with_reducible refine dG_bool' (fun hp => ?_) (fun hp => ?_))
        | (with_reducible refine Rd_nil' ?_))
      all_goals (rw [Bool.eq_iff_iff]; simp; omega)
/-! ### long -/
def sumP (l : List Part) : Nat := (l.map fun x => min x.text.length 5000 + min x.value.length 5000).sum
def deepP (l : List Part) : Nat := (l.map fun x => if x.kind = 3 then 1 else 0).sum
theorem sumP_snoc (l : List Part) (x : Part) : sumP (l ++ [x]) = sumP l + (min x.text.length 5000 + min x.value.length 5000) := by simp [sumP]
theorem deepP_snoc (l : List Part) (x : Part) : deepP (l ++ [x]) = deepP l + (if x.kind = 3 then 1 else 0) := by simp [deepP]
def longR (l : List Part) : Bool := decide (40 < l.length) || decide (20000 < sumP (l.take 40)) || (decide (3 < deepP (l.take 40)) && decide (l.length ≤ 32))
theorem long_ok (l : List Part) (hll : l.length < 1073741824) : Puv 15 [parts l] (.bool (longR l)) := by
  refine pv ok15 (by simp [AV.clL, cl_parts]) rfl fun h => ?_
  unfold longR
  have hmn : min (l.length : Int) 40 = ((min l.length 40 : Nat) : Int) := by omega
  have hmn2 : (min (l.length : Int) 40).toNat = min l.length 40 := by omega
  have htk : l.take (min l.length 40) = l.take 40 := by
    rw [List.take_eq_take_iff]; omega
  have htl : (l.take 40).length ≤ 40 := by simp; omega
  obtain ⟨ns, hns⟩ : ∃ ns, l.take 40 = ns := ⟨_, rfl⟩
  repeat' (first
    | (simp (disch := omega) [go_sem, S15, parts, evQ_mn2, *])
    | (omega)
    | (with_reducible refine Br_dec (fun hp => ?_) (fun hp => ?_))
    | (with_reducible refine Br_not ?_)
    | (with_reducible refine Br_bool (fun hp => ?_) (fun hp => ?_))
    | (with_reducible refine bG_dec (fun hp => ?_) (fun hp => ?_))
    | (with_reducible refine bG_bool' (fun hp => ?_) (fun hp => ?_))
    | ((with_reducible refine Go_regD _ _ ?hn ?_); case hn => rfl)
    | ((with_reducible refine Go_regN _ _ ?hn ?_); case hn => rfl)
    | (with_reducible refine dE_some ?_ ?_)
    | (with_reducible refine dN_some ?_ ?_)
    | (with_reducible refine dN_some' ?_ ?_)
    | ((with_reducible refine Rd_dG ?hn _ _ _ _ _ ?_); case hn => rfl)
    | (with_reducible refine dG_dec (fun hp => ?_) (fun hp => ?_))
    | (with_reducible refine dG_bool' (fun hp => ?_) (fun hp => ?_))
    | (with_reducible refine Rd_nil' ?_))
  have hnl : min l.length 40 = ns.length := by rw [← hns]; simp [Nat.min_comm]
  have hnm : List.take (min l.length 40) (List.map Part.av l) = ns.map Part.av := by rw [← List.map_take, htk, hns]
  rw [hnm, hnl]
  rw [hns] at htl
  clear hmn hmn2 htk hnl hnm
  refine Go_loop (fun m e h1 => ∃ j : Nat, m = ns.length - j ∧ j ≤ ns.length ∧ e.get 13 = .int .i64 j ∧ e.get 12 = .int .i64 ns.length ∧ e.get 11 = .fsl false 4 (ns.map Part.av) ∧ e.get 3 = .int .i64 (sumP (ns.take j)) ∧ e.get 4 = .int .i64 (deepP (ns.take j)) ∧ e.get 0 = .fsl false 4 (l.map Part.av)) (n := ns.length) ?_ ?_
  · refine ⟨0, ?_⟩
    simp (disch := omega) [go_sem, sumP, deepP]
  · rintro m e h1 ⟨j, rfl, hj, q13, q12, q11, q3, q4, q0⟩ Q hQ
    have hsb : ∀ l : List Part, sumP l ≤ 10000 * l.length := fun l => by
      induction l with
      | nil => simp [sumP]
      | cons x l ih => simp only [sumP, List.map_cons, List.sum_cons, List.length_cons] at ih ⊢; omega
    have hdb : ∀ l : List Part, deepP l ≤ l.length := fun l => by
      induction l with
      | nil => simp [deepP]
      | cons x l ih => simp only [deepP, List.map_cons, List.sum_cons, List.length_cons] at ih ⊢; split <;> omega
    have hs0 := hsb (ns.take j)
    have hd0 := hdb (ns.take j)
    have hs1 : (ns.take j).length ≤ 40 := by simp; omega
    by_cases hlt : j < ns.length
    · have hx : ns[j]? = some ns[j] := List.getElem?_eq_getElem hlt
      have hQ' : ∀ e' h', e'.get 13 = .int .i64 ((j : Int) + 1) → e'.get 12 = .int .i64 ns.length → e'.get 11 = .fsl false 4 (ns.map Part.av) → e'.get 3 = .int .i64 ((sumP (ns.take j) : Int) + (min (ns[j].text.length : Int) 5000 + min (ns[j].value.length : Int) 5000)) → e'.get 4 = .int .i64 ((deepP (ns.take j) : Int) + (if ns[j].kind = 3 then 1 else 0)) → e'.get 0 = .fsl false 4 (l.map Part.av) → Q e' h' :=
        fun e' h' r1 r2 r3 r4 r5 r6 => hQ (ns.length - (j + 1)) e' h' (by omega) ⟨j + 1, rfl, by omega, r1, r2, r3, by rw [r4, take_snoc ns j hlt, sumP_snoc]; congr 1; omega, by rw [r5, take_snoc ns j hlt, deepP_snoc]; congr 1; split <;> omega, r6⟩
      clear hQ
      generalize sumP (ns.take j) = sj at *
      generalize deepP (ns.take j) = dj at *
      by_cases hk : ns[j].kind = 3
      · rw [if_pos hk] at hQ'
        repeat' (first
          | (simp (disch := omega) [go_sem, S15, Part.av, Part.cells, evQ_mn2, *])
          | (omega)
          | (with_reducible refine Br_dec (fun hp => ?_) (fun hp => ?_))
          | (with_reducible refine Br_not ?_)
          | (with_reducible refine Br_bool (fun hp => ?_) (fun hp => ?_))
          | (with_reducible refine bG_dec (fun hp => ?_) (fun hp => ?_))
          | (with_reducible refine bG_bool' (fun hp => ?_) (fun hp => ?_))
          | ((with_reducible refine Go_regD _ _ ?hn ?_); case hn => rfl)
          | ((with_reducible refine Go_regN _ _ ?hn ?_); case hn => rfl)
          | (with_reducible refine dE_some ?_ ?_)
          | (with_reducible refine dN_some ?_ ?_)
          | (with_reducible refine dN_some' ?_ ?_)
          | ((with_reducible refine Rd_dG ?hn _ _ _ _ _ ?_); case hn => rfl)
          | (with_reducible refine dG_dec (fun hp => ?_) (fun hp => ?_))
          | (with_reducible refine dG_bool' (fun hp => ?_) (fun hp => ?_))
          | (with_reducible refine Rd_nil' ?_))
        refine hQ' _ _ ?_ ?_ ?_ ?_ ?_ ?_ <;> first | (simp (disch := omega) [go_sem, *]; done) | (simp [go_sem]; omega)
      · rw [if_neg hk] at hQ'
        repeat' (first
          | (simp (disch := omega) [go_sem, S15, Part.av, Part.cells, evQ_mn2, *])
          | (omega)
          | (with_reducible refine Br_dec (fun hp => ?_) (fun hp => ?_))
          | (with_reducible refine Br_not ?_)
          | (with_reducible refine Br_bool (fun hp => ?_) (fun hp => ?_))
          | (with_reducible refine bG_dec (fun hp => ?_) (fun hp => ?_))
          | (with_reducible refine bG_bool' (fun hp => ?_) (fun hp => ?_))
          | ((with_reducible refine Go_regD _ _ ?hn ?_); case hn => rfl)
          | ((with_reducible refine Go_regN _ _ ?hn ?_); case hn => rfl)
          | (with_reducible refine dE_some ?_ ?_)
          | (with_reducible refine dN_some ?_ ?_)
          | (with_reducible refine dN_some' ?_ ?_)
          | ((with_reducible refine Rd_dG ?hn _ _ _ _ _ ?_); case hn => rfl)
          | (with_reducible refine dG_dec (fun hp => ?_) (fun hp => ?_))
          | (with_reducible refine dG_bool' (fun hp => ?_) (fun hp => ?_))
          | (with_reducible refine Rd_nil' ?_))
        refine hQ' _ _ ?_ ?_ ?_ ?_ ?_ ?_ <;> first | (simp (disch := omega) [go_sem, *]; done) | (simp [go_sem]; omega)
    · rw [List.take_of_length_le (by omega)] at q3 q4 hs0 hd0
      clear hQ
      have hs2 : sumP ns ≤ 400000 := by omega
      generalize sumP ns = sj at *
      generalize deepP ns = dj at *
      repeat' (first
        | (simp (disch := omega) [go_sem, S15, evQ_mn2, *])
        | (omega)
        | (with_reducible refine Br_dec (fun hp => ?_) (fun hp => ?_))
        | (with_reducible refine Br_not ?_)
        | (with_reducible refine Br_bool (fun hp => ?_) (fun hp => ?_))
        | (with_reducible refine bG_dec (fun hp => ?_) (fun hp => ?_))
        | (with_reducible refine bG_bool' (fun hp => ?_) (fun hp => ?_))
        | ((with_reducible refine Go_regD _ _ ?hn ?_); case hn => rfl)
        | ((with_reducible refine Go_regN _ _ ?hn ?_); case hn => rfl)
        | (with_reducible refine dE_some ?_ ?_)
        | (with_reducible refine dN_some ?_ ?_)
        | (with_reducible refine dN_some' ?_ ?_)
        | ((with_reducible refine Rd_dG ?hn _ _ _ _ _ ?_); case hn => rfl)
        | (with_reducible refine dG_dec (fun hp => ?_) (fun hp => ?_))
        | (with_reducible refine dG_bool' (fun hp => ?_) (fun hp => ?_))
        | (with_reducible refine Rd_nil' ?_))
      all_goals (rw [Bool.eq_iff_iff]; simp; omega)
/-! ### theirs -/
theorem okE_part (x : Part) : okE 4 x.av := okE_agg rfl (by decide) (by simp [Part.cells, AV.leaf])
theorem closed_parts {p : Nat → Bool} {h : H} (d : Nat) (l : List Part) : fzL p h (d + 2) ((l.map Part.av).flatMap AV.cells) = some ((l.map Part.av).flatMap AV.cells) := by
  refine fzL_of fun c hc => ?_
  obtain ⟨x, hx, hcx⟩ := List.mem_flatMap.1 hc
  obtain ⟨y, _, rfl⟩ := List.mem_map.1 hx
  simp only [Part.av, AV.cells, Part.cells, List.mem_cons, List.not_mem_nil, or_false] at hcx
  rcases hcx with rfl | rfl | rfl | rfl <;> exact fz_closed _ _ trivial
theorem theirs_ok (l : List Part) (hl : l.length < 1073741824) : Pur 19 [parts l] fun v => v = parts l := by
  refine pq ok19 (by simp [AV.clL, cl_parts]) rfl fun h => ?_
  unfold parts
  repeat' (first
    | (simp (disch := omega) [go_sem, S19, *])
    | (omega)
    | (with_reducible refine Br_dec (fun hp => ?_) (fun hp => ?_))
    | (with_reducible refine Br_not ?_)
    | (with_reducible refine Br_bool (fun hp => ?_) (fun hp => ?_))
    | (with_reducible refine bG_dec (fun hp => ?_) (fun hp => ?_))
    | (with_reducible refine bG_bool' (fun hp => ?_) (fun hp => ?_))
    | ((with_reducible refine Go_regD _ _ ?hn ?_); case hn => rfl)
    | ((with_reducible refine Go_regN _ _ ?hn ?_); case hn => rfl)
    | (with_reducible refine dE_some ?_ ?_)
    | (with_reducible refine dN_some ?_ ?_)
    | (with_reducible refine dN_some' ?_ ?_)
    | ((with_reducible refine Rd_dG ?hn _ _ _ _ _ ?_); case hn => rfl)
    | (with_reducible refine dG_dec (fun hp => ?_) (fun hp => ?_))
    | (with_reducible refine dG_bool' (fun hp => ?_) (fun hp => ?_))
    | (with_reducible refine Rd_nil' ?_))
  refine Go_loop (fun m e h1 => ∃ j : Nat, ∃ v : AV, m = l.length - j ∧ j ≤ l.length ∧ e.get 8 = .int .i64 j ∧ e.get 7 = .int .i64 l.length ∧ e.get 6 = .fsl false 4 (l.map Part.av) ∧ e.get 3 = v ∧ h.next ≤ h1.next ∧ Els h.next h1 v 4 45 ((l.take j).map Part.av)) (n := l.length) ?_ ?_
  · refine ⟨0, .nils, ?_⟩
    simp (disch := omega) [go_sem]
    exact Els.nil _ _ _ _
  · rintro m e h1 ⟨j, v, rfl, hj, q8, q7, q6, q3, hn1, hs⟩ Q hQ
    by_cases hlt : j < l.length
    · have hx : l[j]? = some l[j] := List.getElem?_eq_getElem hlt
      have hlt2 : ((l.take j).map Part.av).length ≤ j := by simp; omega
      have hQ' : ∀ e' h' v', e'.get 8 = .int .i64 ((j : Int) + 1) → e'.get 7 = .int .i64 l.length → e'.get 6 = .fsl false 4 (l.map Part.av) → e'.get 3 = v' → h.next ≤ h'.next → Els h.next h' v' 4 45 ((l.take j).map Part.av ++ [l[j].av]) → Q e' h' :=
        fun e' h' v' r1 r2 r3 r4 r5 r6 => hQ (l.length - (j + 1)) e' h' (by omega) ⟨j + 1, v', rfl, by omega, r1, r2, r3, r4, r5, by rw [take_snoc l j hlt, List.map_append]; exact r6⟩
      clear hQ
      repeat' (first
        | (simp (disch := omega) [go_sem, S19, Part.av, Part.cells, *])
        | (omega)
        | (with_reducible refine Br_dec (fun hp => ?_) (fun hp => ?_))
        | (with_reducible refine Br_not ?_)
        | (with_reducible refine Br_bool (fun hp => ?_) (fun hp => ?_))
        | (with_reducible refine bG_dec (fun hp => ?_) (fun hp => ?_))
        | (with_reducible refine bG_bool' (fun hp => ?_) (fun hp => ?_))
        | (refine bE_app (B := h.next) (x := l[j].av) (hs.same (by simp [go_sem] <;> omega) fun k h1 h2 => by simp (disch := omega) [go_sem]) (by simp [go_sem] <;> omega) (okE_part _) rfl (by omega) fun v' h3 n1 n2 n3 => ?_; simp only [go_sem] at n1)
        | ((with_reducible refine Go_regD _ _ ?hn ?_); case hn => rfl)
        | ((with_reducible refine Go_regN _ _ ?hn ?_); case hn => rfl)
        | (with_reducible refine dE_some ?_ ?_)
        | (with_reducible refine dN_some ?_ ?_)
        | (with_reducible refine dN_some' ?_ ?_)
        | ((with_reducible refine Rd_dG ?hn _ _ _ _ _ ?_); case hn => rfl)
        | (with_reducible refine dG_dec (fun hp => ?_) (fun hp => ?_))
        | (with_reducible refine dG_bool' (fun hp => ?_) (fun hp => ?_))
        | (with_reducible refine Rd_nil' ?_))
      refine hQ' _ _ v' ?_ ?_ ?_ ?_ (by omega) n3 <;> simp (disch := omega) [go_sem, *]
    · rw [List.take_of_length_le (by omega)] at hs
      clear hQ
      repeat' (first
        | (simp (disch := omega) [go_sem, S19, *])
        | (omega)
        | (with_reducible refine Br_dec (fun hp => ?_) (fun hp => ?_))
        | (with_reducible refine Br_not ?_)
        | (with_reducible refine Br_bool (fun hp => ?_) (fun hp => ?_))
        | (with_reducible refine bG_dec (fun hp => ?_) (fun hp => ?_))
        | (with_reducible refine bG_bool' (fun hp => ?_) (fun hp => ?_))
        | ((with_reducible refine Go_regD _ _ ?hn ?_); case hn => rfl)
        | ((with_reducible refine Go_regN _ _ ?hn ?_); case hn => rfl)
        | (with_reducible refine dE_some ?_ ?_)
        | (with_reducible refine dN_some ?_ ?_)
        | (with_reducible refine dN_some' ?_ ?_)
        | ((with_reducible refine Rd_dG ?hn _ _ _ _ _ ?_); case hn => rfl)
        | (with_reducible refine dG_dec (fun hp => ?_) (fun hp => ?_))
        | (with_reducible refine dG_bool' (fun hp => ?_) (fun hp => ?_))
        | (with_reducible refine Rd_nil' ?_))
      exact fin_one (hs.fz (fun _ _ => rfl) (closed_parts _ _)) rfl
end Go.Eng.Tryz
set_option maxRecDepth 20000
set_option maxHeartbeats 1000000
namespace Go.Eng.Tryz
open Go.Eng Go.Proofs Go.RowKit
section
variable {a b : List Part} {i j : Nat}
theorem reach_stepA2 (hA : i < a.length) (hk : a[i].kind = 3) (hB : j < b.length) (h : reachAt a b i (j + 1) = true) : reachAt a b i j = true := by
  rw [reach_deepA hA hk hB, h, Bool.or_true]
theorem reach_stepA (hA : i < a.length) (hk : a[i].kind = 3) (h : reachAt a b (i + 1) j = true) : reachAt a b i j = true := by
  by_cases hB : j < b.length
  · rw [reach_deepA hA hk hB, h, Bool.true_or]
  · rw [reach_deepA' hA hk hB, h]
theorem reach_stepB (hB : j < b.length) (hk2 : b[j].kind = 3) (h : reachAt a b i (j + 1) = true) : reachAt a b i j = true := by
  by_cases hA : i < a.length
  · by_cases hk : a[i].kind = 3
    · exact reach_stepA2 hA hk hB h
    · rw [reach_deepB hA hk hB hk2, h, Bool.true_or]
  · rw [reach_deepB' hA hB hk2, h]
theorem reach_stepB2 (hA : i < a.length) (hB : j < b.length) (hk2 : b[j].kind = 3) (h : reachAt a b (i + 1) j = true) : reachAt a b i j = true := by
  by_cases hk : a[i].kind = 3
  · exact reach_stepA hA hk h
  · rw [reach_deepB hA hk hB hk2, h, Bool.or_true]
end
theorem one_meets {g : Graph} {x y : Part} {w : Step} {c : Int} (h1 : oneR g x w c = true) (h2 : oneR g y w c = true) : meetsR x y = true := by
  have k1 : w.isAt = decide (4 ≤ x.kind) := by
    apply Classical.byContradiction; intro hc
    unfold oneR at h1; rw [if_pos hc] at h1; cases h1
  have k2 : w.isAt = decide (4 ≤ y.kind) := by
    apply Classical.byContradiction; intro hc
    unfold oneR at h2; rw [if_pos hc] at h2; cases h2
  unfold meetsR
  split
  · rfl
  · rw [if_neg (fun hc => hc (k1.symm.trans k2))]
    split
    · rename_i h3
      unfold oneR at h1 h2
      rw [if_neg (fun hc => hc k1), if_pos h3.2] at h1
      rw [if_neg (fun hc => hc k2), if_pos (h3.1.symm.trans h3.2)] at h2
      simp only [decide_eq_true_eq] at h1 h2 ⊢
      rw [← h1, ← h2]
    · split
      · rename_i _ h3
        unfold oneR at h1 h2
        rw [if_neg (fun hc => hc k1), if_neg (by omega), if_pos h3.2] at h1
        rw [if_neg (fun hc => hc k2), if_neg (by omega), if_pos (h3.1.symm.trans h3.2)] at h2
        simp only [decide_eq_true_eq] at h1 h2 ⊢
        rw [← h1, ← h2]
      · rfl
theorem meets_self (x : Part) : meetsR x x = true := by
  unfold meetsR
  split
  · rfl
  · rw [if_neg (fun hc => hc rfl)]
    split
    · simp
    · split <;> simp
theorem reach_self (a : List Part) : ∀ (d i : Nat), a.length - i = d → reachAt a a i i = true
  | 0, i, h => reach_end (by omega) (by omega)
  | d + 1, i, h => by
    have hi : i < a.length := by omega
    have ih := reach_self a d (i + 1) (by omega)
    by_cases hk : a[i].kind = 3
    · exact reach_stepA hi hk (reach_stepB hi hk ih)
    · rw [reach_both hi hk hi hk, meets_self, ih]; rfl
def Fwd (a b : List Part) (i j : Nat) : Prop := reachAt a b i j = true → reachAt a b 0 0 = true
theorem free_pair {a b : List Part} {A B : Nat} (h : ∀ i j, A.testBit i = true → B.testBit j = true → Fwd a b i j) : ∀ i j, (freeR a A).testBit i = true → (freeR b B).testBit j = true → Fwd a b i j := by
  have h1 : ∀ j, B.testBit j = true → ∀ i, (freeR a A).testBit i = true → Fwd a b i j := fun j hj =>
    freeR_inv (fun i => Fwd a b i j) a A (fun i hi => h i j hi hj) (fun i hi hp hk hr => hp (reach_stepA hi hk hr))
  exact fun i j hi hj => freeR_inv (fun j => Fwd a b i j) b B (fun j hj => h1 j hj i hi) (fun j hj hp hk hr => hp (reach_stepB hj hk hr)) j hj
theorem step_pair {g : Graph} {a b : List Part} {A B : Nat} {w : Step} {c : Int} (h : ∀ i j, A.testBit i = true → B.testBit j = true → Fwd a b i j) : ∀ i j, (stepR g a A w c).testBit i = true → (stepR g b B w c).testBit j = true → Fwd a b i j := by
  refine free_pair fun i j hi hj => ?_
  refine nextF_inv (fun i => ∀ j, (nextF (fun x => oneR g x w c) B b 0 0).testBit j = true → Fwd a b i j) _ A a 0 0 (fun m hm => by simp at hm) (fun i hi hA => ?_) i hi j hj
  rw [Nat.zero_add] at hA ⊢
  refine ⟨fun hk j hj => ?_, fun hk h1 j hj => ?_⟩
  · refine nextF_inv (fun j => Fwd a b i j) _ B b 0 0 (fun m hm => by simp at hm) (fun j hj hB => ?_) j hj
    rw [Nat.zero_add] at hB ⊢
    exact ⟨fun _ => h i j hA hB, fun hk2 h2 hr => h i j hA hB (reach_stepA2 hi hk hj hr)⟩
  · refine nextF_inv (fun j => Fwd a b (i + 1) j) _ B b 0 0 (fun m hm => by simp at hm) (fun j hj hB => ?_) j hj
    rw [Nat.zero_add] at hB ⊢
    exact ⟨fun hk2 hr => h i j hA hB (reach_stepB2 hi hj hk2 hr), fun hk2 h2 hr => h i j hA hB (by rw [reach_both hi hk hj hk2, one_meets h1 h2, hr]; rfl)⟩
theorem go_pair (g : Graph) (a b : List Part) (way : List Step) : ∀ (k : Nat) (i j : Nat), (goR g a way k).testBit i = true → (goR g b way k).testBit j = true → Fwd a b i j
  | 0 => by
    simp only [goR]
    refine free_pair fun i j hi hj => ?_
    have h1 : ∀ i, (1 : Nat).testBit i = true → i = 0 := fun i hi => by
      rw [show (1 : Nat) = 2 ^ 0 from rfl, Nat.testBit_two_pow] at hi
      have : 0 = i := by simpa using hi
      omega
    rw [h1 i hi, h1 j hj]
    exact fun h => h
  | k + 1 => by
    simp only [goR]
    split
    · exact step_pair (go_pair g a b way k)
    · exact go_pair g a b way k
theorem meet_of {g : Graph} {a b : List Part} {way : List Step} (h1 : (goR g a way way.length).testBit a.length = true) (h2 : (goR g b way way.length).testBit b.length = true) : reachAt a b 0 0 = true :=
  go_pair g a b way _ _ _ h1 h2 (reach_end (by omega) (by omega))
/-! ### what is found -/
def startF (g : Graph) (l : List Part) : FS := toF g l 64 g.root [] (freeR l 1) (List.replicate g.nodes.length false) (4096, [])
def foundR (g : Graph) (l : List Part) : List (List Step) × Int :=
  if fmtE l ≠ 0 ∨ rightR g = false then ([], 1) else if (startF g l).1 < 0 then ([], 5) else ((startF g l).2, 0)
def allP (g : Graph) : List (List Step) := pathsF g 64 g.root [] (List.replicate g.nodes.length false)
theorem found_ok {g : Graph} {l : List Part} (h : (foundR g l).2 = 0) : fmtE l = 0 ∧ rightR g = true ∧ 0 ≤ (startF g l).1 ∧ (foundR g l).1 = (startF g l).2 := by
  unfold foundR at h ⊢
  split at h
  · cases h
  · rename_i h1
    split at h
    · cases h
    · rename_i h2
      refine ⟨Classical.byContradiction fun hc => h1 (.inl hc), ?_, by omega, ?_⟩
      · cases hr : rightR g with
        | true => rfl
        | false => exact absurd (.inr hr) h1
      · rw [if_neg h1, if_neg h2]
theorem topF_sum (l : List Part) (way : List Step) (bits : Nat) (s : FS) : ((topF l way bits s).2.length : Int) + (topF l way bits s).1 ≤ s.2.length + s.1 := by
  unfold topF
  simp only
  split
  · simp only [List.length_append, List.length_singleton]; omega
  · omega
theorem kidsF_sum {rec : Int → List Step → Nat → FS → FS} (hrec : ∀ k w b s, ((rec k w b s).2.length : Int) + (rec k w b s).1 ≤ s.2.length + s.1) (g : Graph) (l : List Part) (n : Node) (way : List Step) (bits : Nat) (met : List Bool) : ∀ (ks : List Int) (i : Nat) (s : FS), ((kidsF rec g l n way bits met ks i s).2.length : Int) + (kidsF rec g l n way bits met ks i s).1 ≤ s.2.length + s.1
  | [], _, s => Int.le_refl _
  | k :: ks, i, s => by
    simp only [kidsF]
    refine Int.le_trans (kidsF_sum hrec g l n way bits met ks (i + 1) _) ?_
    unfold kidF
    split
    · exact Int.le_refl _
    · split
      · exact hrec _ _ _ _
      · exact Int.le_refl _
theorem toF_sum (g : Graph) (l : List Part) : ∀ (f : Nat) (a : Int) (way : List Step) (bits : Nat) (met : List Bool) (s : FS), ((toF g l f a way bits met s).2.length : Int) + (toF g l f a way bits met s).1 ≤ s.2.length + s.1
  | 0, a, way, bits, met, s => topF_sum l way bits s
  | f + 1, a, way, bits, met, s => by
    simp only [toF]
    split
    · exact topF_sum l way bits s
    · split
      · exact topF_sum l way bits s
      · exact Int.le_trans (kidsF_sum (fun k w b s => toF_sum g l f k w b _ s) _ _ _ _ _ _ _ _ _) (topF_sum l way bits s)
theorem found_len (g : Graph) (l : List Part) : (foundR g l).1.length ≤ 4096 := by
  unfold foundR
  split
  · simp
  · split
    · simp
    · rename_i h
      have := toF_sum g l 64 g.root [] (freeR l 1) (List.replicate g.nodes.length false) (4096, [])
      have e : toF g l 64 g.root [] (freeR l 1) (List.replicate g.nodes.length false) (4096, []) = startF g l := rfl
      rw [e] at this
      simp only [List.length_nil] at this ⊢
      omega
theorem not_large {g : Graph} (hl : largeR g = false) (hr : rightR g = true) : g.nodes.length ≤ 40 ∧ ∀ n ∈ g.nodes, n.kids.length ≤ 150 := by
  obtain ⟨h0, -⟩ := right_parts hr
  unfold largeR at hl
  simp only [Bool.or_eq_false_iff, Bool.and_eq_false_iff, decide_eq_false_iff_not] at hl
  have h1 : g.nodes.length ≤ 40 := by omega
  refine ⟨h1, fun n hn => ?_⟩
  have h2 := hl.2
  rw [List.take_of_length_le h1] at h2
  have h3 : ∀ l : List Node, n ∈ l → min n.kids.length 500 ≤ sumN l := by
    intro l
    induction l with
    | nil => intro h; cases h
    | cons x l ih =>
      intro h
      simp only [sumN, List.map_cons, List.sum_cons] at ih ⊢
      rcases List.mem_cons.1 h with rfl | h
      · omega
      · have := ih h; omega
  have := h3 _ hn
  omega
theorem found_paths {g : Graph} {l : List Part} (hlg : largeR g = false) (h : (foundR g l).2 = 0) : (foundR g l).1 = (allP g).filter (isIn g l) := by
  obtain ⟨h1, h2, h3, h4⟩ := found_ok h
  have hm : ∀ n ∈ g.nodes, n.kids.length ≤ 1000000 := fun n hn => by have := (not_large hlg h2).2 n hn; omega
  rw [h4]
  have := toF_paths h2 hm l 64 g.root [] (List.replicate g.nodes.length false) (4096, []) (by simp) (Led.root h2) h3
  exact this.trans (by simp only [List.nil_append]; rfl)
theorem all_led {g : Graph} (hlg : largeR g = false) (hr : rightR g = true) : ∀ w ∈ allP g, ∃ a, Led g a w := by
  have hm : ∀ n ∈ g.nodes, n.kids.length ≤ 1000000 := fun n hn => by have := (not_large hlg hr).2 n hn; omega
  intro w hw
  obtain ⟨a, _, h⟩ := pathsF_ind (g := g) (fun a w _ => Led g a w) (fun a way met n i k w hp hlt hn hk hw hmt => hp.kid hr hm hn hk hw hlt) 64 g.root [] _ (by simp) (Led.root hr) w hw
  exact ⟨a, h⟩
theorem match_in {g : Graph} {l : List Part} (hf : fmtE l = 0) (hr : rightR g = true) {w : List Step} {a : Int} (h : Led g a w) : matchR g l w = (isIn g l w, 0) := by
  unfold matchR
  rw [if_neg (by rw [hf]; decide), h.get hr]
  rfl
theorem law_meet {g : Graph} {a b : List Part} (hlg : largeR g = false) (h : (foundR g a).2 = 0) (hm : (meetR a b).2 = 0) : ∀ w ∈ (foundR g a).1, (matchR g b w).2 = 0 ∧ ((matchR g b w).1 = true → (meetR a b).1 = true) := by
  intro w hw
  obtain ⟨h1, h2, h3, h4⟩ := found_ok h
  rw [found_paths hlg h] at hw
  obtain ⟨hw1, hw2⟩ := List.mem_filter.1 hw
  obtain ⟨c, hled⟩ := all_led hlg h2 w hw1
  unfold meetR at hm ⊢
  split at hm
  · rename_i h5
    rw [match_in h5.2 h2 hled, if_pos h5]
    exact ⟨rfl, fun hb => meet_of hw2 hb⟩
  · cases hm
theorem law_self {a : List Part} (hm : (meetR a a).2 = 0) : (meetR a a).1 = true := by
  unfold meetR at hm ⊢
  split at hm
  · rename_i h5
    rw [if_pos h5]
    exact reach_self a _ 0 rfl
  · cases hm
end Go.Eng.Tryz
set_option maxRecDepth 20000
set_option maxHeartbeats 1000000
namespace Go.Eng
theorem Le.agg {xs ys : List AV} (h : LeL xs ys) (hl : ∀ c ∈ ys, c.leaf = true) : Le (.agg xs) (.agg ys) := fun s w v k => by
  simp only [VR] at k ⊢
  obtain ⟨vs, k1, k2, _⟩ := k
  exact ⟨vs, k1, VRs_le h k2, hl⟩
theorem LeL.length : ∀ {xs ys : List AV}, LeL xs ys → xs.length = ys.length
  | [], [], _ => rfl
  | x :: xs, y :: ys, h => by simp only [List.length_cons, LeL.length h.2]
  | [], _ :: _, h => h.elim
  | _ :: _, [], h => h.elim
theorem Le.fslL {f : Bool} {sz : Nat} {xs ys : List AV} (h : LeL xs ys) (hl : ∀ c ∈ ys, c.elt = true) : Le (.fsl f sz xs) (.fsl false sz ys) := fun s w v k => by
  have hn := LeL.length h
  unfold VR at k ⊢
  obtain ⟨A, c, k1, k2, k3, k4⟩ := k
  refine ⟨A, c, by rw [← hn]; exact k1, by omega, (fun e => nomatch e), ?_⟩
  rcases k4 with k4 | ⟨a, rs, k5, k6, k7, k8, k9, k10, k11⟩
  · subst k4
    exact .inl (List.eq_nil_of_length_eq_zero (by rw [← hn]; rfl))
  · exact .inr ⟨a, rs, k5, VRs_le h k6, k7, k8, k9, hl, k11⟩
end Go.Eng
namespace Go.Eng.Tryz
open Go.Eng Go.Proofs Go.RowKit
def hs (s : List Nat) : Node := ⟨4, s, []⟩
def houseG : Graph := ⟨[⟨6, [], [1, 2]⟩, hs [97], ⟨5, [], [3, 8]⟩, ⟨6, [], [4, 5, 6, 7]⟩, hs [107], hs [118], hs [98], ⟨3, [49], []⟩, ⟨6, [], [9, 10, 11, 12]⟩, hs [107], hs [119], hs [98], ⟨3, [50], []⟩], 0⟩
theorem leaf_node (n : Node) : ∀ c ∈ n.cells, c.leaf = true := fun c hc => by
  simp only [Node.cells, List.mem_cons, List.not_mem_nil, or_false] at hc
  rcases hc with rfl | rfl | rfl <;> rfl
theorem leaf_graph (g : Graph) : ∀ c ∈ g.cells, c.leaf = true := fun c hc => by
  simp only [Graph.cells, List.mem_cons, List.not_mem_nil, or_false] at hc
  rcases hc with rfl | rfl <;> rfl
theorem str_ok (s : List Nat) : Puv 101 [.str s] (.agg [.int .i64 4, .str s, .nils]) := by
  refine pv ok101 rfl rfl fun h => ?_
  repeat' (first
    | (simp (disch := omega) [go_sem, S101, *])
    | (omega)
    | (with_reducible refine Br_dec (fun hp => ?_) (fun hp => ?_))
    | (with_reducible refine Br_not ?_)
    | (with_reducible refine Br_bool (fun hp => ?_) (fun hp => ?_))
    | (with_reducible refine bG_dec (fun hp => ?_) (fun hp => ?_))
    | (with_reducible refine bG_bool' (fun hp => ?_) (fun hp => ?_))
    | ((with_reducible refine Go_regD _ _ ?hn ?_); case hn => rfl)
    | ((with_reducible refine Go_regN _ _ ?hn ?_); case hn => rfl)
    | (with_reducible refine dE_some ?_ ?_)
    | (with_reducible refine dN_some ?_ ?_)
    | (with_reducible refine dN_some' ?_ ?_)
    | ((with_reducible refine Rd_dG ?hn _ _ _ _ _ ?_); case hn => rfl)
    | (with_reducible refine dG_dec (fun hp => ?_) (fun hp => ?_))
    | (with_reducible refine dG_bool' (fun hp => ?_) (fun hp => ?_))
    | (with_reducible refine Rd_nil' ?_))
theorem house_le : Le (.agg [.fsl true 3 [.agg [.int .i64 6, .str [], .fsl true 1 [.int .i64 1, .int .i64 2]], .agg [.int .i64 4, .str [97], .nils], .agg [.int .i64 5, .str [], .fsl true 1 [.int .i64 3, .int .i64 8]], .agg [.int .i64 6, .str [], .fsl true 1 [.int .i64 4, .int .i64 5, .int .i64 6, .int .i64 7]], .agg [.int .i64 4, .str [107], .nils], .agg [.int .i64 4, .str [118], .nils], .agg [.int .i64 4, .str [98], .nils], .agg [.int .i64 3, .str [49], .nils], .agg [.int .i64 6, .str [], .fsl true 1 [.int .i64 9, .int .i64 10, .int .i64 11, .int .i64 12]], .agg [.int .i64 4, .str [107], .nils], .agg [.int .i64 4, .str [119], .nils], .agg [.int .i64 4, .str [98], .nils], .agg [.int .i64 3, .str [50], .nils]], .int .i64 0]) houseG.av := by
  have hn : ∀ (k : Int) (s : List Nat), Le (.agg [.int .i64 k, .str s, .nils]) (⟨k, s, []⟩ : Node).av := fun k s => Le.agg ⟨Le.refl _, Le.refl _, Le.nils _ _, trivial⟩ (leaf_node _)
  have hf : ∀ (k : Int) (s : List Nat) (l : List Int), Le (.agg [.int .i64 k, .str s, .fsl true 1 (l.map (AV.int .i64))]) (⟨k, s, l⟩ : Node).av := fun k s l => Le.agg ⟨Le.refl _, Le.refl _, Le.fsl _ _ _, trivial⟩ (leaf_node _)
  refine Le.agg ⟨Le.fslL ⟨hf 6 [] [1, 2], hn _ _, hf 5 [] [3, 8], hf 6 [] [4, 5, 6, 7], hn _ _, hn _ _, hn _ _, hn _ _, hf 6 [] [9, 10, 11, 12], hn _ _, hn _ _, hn _ _, hn _ _, trivial⟩ ?_, Le.refl _, trivial⟩ ?_
  · intro c hc
    obtain ⟨x, _, rfl⟩ := List.mem_map.1 hc
    rfl
  · exact leaf_graph _
theorem house_ok : Pur 48 [] fun v => v = houseG.av := by
  refine pq ok48 rfl rfl fun h => ?_
  repeat' (first
    | (simp (disch := omega) [go_sem, S48, evPartsL, fzS, fzL, chunks, mkE, sub, *])
    | (omega)
    | (with_reducible refine Br_dec (fun hp => ?_) (fun hp => ?_))
    | (with_reducible refine Br_not ?_)
    | (with_reducible refine Br_bool (fun hp => ?_) (fun hp => ?_))
    | (with_reducible refine bG_dec (fun hp => ?_) (fun hp => ?_))
    | (with_reducible refine bG_bool' (fun hp => ?_) (fun hp => ?_))
    | (refine bC_v (str_ok _) ?_)
    | ((with_reducible refine Go_regD _ _ ?hn ?_); case hn => rfl)
    | ((with_reducible refine Go_regN _ _ ?hn ?_); case hn => rfl)
    | (with_reducible refine dE_some ?_ ?_)
    | (with_reducible refine dN_some ?_ ?_)
    | (with_reducible refine dN_some' ?_ ?_)
    | ((with_reducible refine Rd_dG ?hn _ _ _ _ _ ?_); case hn => rfl)
    | (with_reducible refine dG_dec (fun hp => ?_) (fun hp => ?_))
    | (with_reducible refine dG_bool' (fun hp => ?_) (fun hp => ?_))
    | (with_reducible refine Rd_nil' ?_))
  exact house_le
end Go.Eng.Tryz
set_option maxRecDepth 20000
set_option maxHeartbeats 1000000
namespace Go.Eng
theorem chunks_leaf : ∀ {rs : List AV}, (∀ c ∈ rs, c.leaf = true) → chunks 1 rs.length rs = rs := fun {rs} h => by
  have h1 : ∀ {rs : List AV}, (∀ c ∈ rs, c.leaf = true) → rs.flatMap AV.cells = rs := by
    intro rs
    induction rs with
    | nil => intro _; rfl
    | cons c rs ih =>
      intro h
      rw [List.flatMap_cons, ih fun x hx => h x (List.mem_cons_of_mem _ hx)]
      have : c.cells = [c] := by
        have := h c List.mem_cons_self
        cases c <;> first | rfl | cases this
      rw [this]; rfl
  have h2 := chunks_flat (sz := 1) (es := rs) fun e he => okE_leaf (h e he)
  rw [h1 h] at h2
  exact h2
end Go.Eng
namespace Go.Eng.Tryz
open Go.Eng Go.Proofs Go.RowKit
theorem closed_steps {p : Nat → Bool} {h : H} (d : Nat) (l : List Step) : fzL p h (d + 2) ((l.map Step.av).flatMap AV.cells) = some ((l.map Step.av).flatMap AV.cells) := by
  refine fzL_of fun c hc => ?_
  obtain ⟨x, hx, hcx⟩ := List.mem_flatMap.1 hc
  obtain ⟨y, _, rfl⟩ := List.mem_map.1 hx
  simp only [Step.av, AV.cells, Step.cells, List.mem_cons, List.not_mem_nil, or_false] at hcx
  rcases hcx with rfl | rfl | rfl <;> exact fz_closed _ _ trivial
theorem fz_outs {p : Nat → Bool} {h : H} (k : Nat) {B : Nat} (hp : ∀ l, B ≤ l → p l = false) : ∀ (vs : List AV) (out : List (List Step)), vs.length = out.length →
    (∀ (j : Nat) (v : AV) (w : List Step), vs[j]? = some v → out[j]? = some w → ∃ B', B ≤ B' ∧ Els B' h v 3 85 (w.map Step.av)) → ∃ rs, fzL p h (k + 4) vs = some rs ∧ LeL rs (out.map steps) ∧ (∀ c ∈ rs, c.leaf = true) ∧ rs.length = vs.length
  | [], [], _, _ => ⟨[], by simp only [fzL], trivial, by simp, rfl⟩
  | v :: vs, w :: out, hl, hv => by
    obtain ⟨rs, h1, h2, h3, h4⟩ := fz_outs k hp vs out (by simpa using hl) fun j v w a b => hv (j + 1) v w (by simpa using a) (by simpa using b)
    obtain ⟨B', hB, he⟩ := hv 0 v w rfl rfl
    obtain ⟨v1, k1, k2⟩ := he.fz (p := p) (d := k + 2) (fun l hl => hp l (by omega)) (closed_steps _ _)
    refine ⟨v1 :: rs, ?_, ⟨k2, h2⟩, fun c hc => ?_, by simp [h4]⟩
    · rw [fzL_cons, h1, k1]; rfl
    · rcases List.mem_cons.1 hc with rfl | hc
      · exact fz_leaf k1 he.elt.2.1
      · exact h3 c hc
  | [], _ :: _, hl, _ => by simp at hl
  | _ :: _, [], hl, _ => by simp at hl
def ways (out : List (List Step)) : AV := .fsl false 1 (out.map steps)
theorem OutR.fz {p : Nat → Bool} {B : Nat} (k : Nat) {h : H} {ov : AV} {out : List (List Step)} (ho : OutR B h ov out) (hp : ∀ l, B ≤ l → p l = false) : ∃ v1, Go.Eng.fz p h (k + 5) ov = some v1 ∧ Le v1 (ways out) := by
  rcases ho with ⟨rfl, rfl⟩ | ⟨l, vs, rfl, h2, h3, h4, h5, h6, h7⟩
  · exact ⟨.nils, by simp only [Go.Eng.fz], Le.nils _ _⟩
  · obtain ⟨rs, k1, k2, k3, k4⟩ := fz_outs (h := h) k hp vs out h6 fun j v w a b => by
      rcases h7 j v w a b with ⟨rfl, rfl⟩ | ⟨l', rfl, m1, m2, m3, m4⟩
      · exact ⟨B, Nat.le_refl _, Els.nil _ _ _ _⟩
      · exact ⟨B, Nat.le_refl _, okE_steps w, .inr ⟨l', by simp, m1, by omega, by simpa using m3, m4⟩⟩
    have hsub : sub vs 0 (out.length * 1) = some vs := by simp [sub, ← h6]
    have hch : chunks 1 out.length rs = rs := by rw [← h6, ← k4]; exact chunks_leaf k3
    refine ⟨.fsl false 1 rs, ?_, Le.fslL k2 fun c hc => ?_⟩
    · rw [fz_sl, hp l h2, h5]
      simp only [fzS, hsub, k1, mapA, hch]
      simp
    · obtain ⟨x, _, rfl⟩ := List.mem_map.1 hc
      rfl
theorem OutR.low {B : Nat} {h : H} {ov : AV} {out : List (List Step)} (ho : OutR B h ov out) : OutR 0 h ov out := by
  refine ho.imp id ?_
  rintro ⟨l, vs, h1, h2, h3, h4, h5, h6, h7⟩
  refine ⟨l, vs, h1, Nat.zero_le _, h3, h4, h5, h6, fun k v w hv hw => ?_⟩
  refine (h7 k v w hv hw).imp id ?_
  rintro ⟨l', k1, k2, k3, k4, k5⟩
  exact ⟨l', k1, Nat.zero_le _, k3, k4, k5⟩
def FindV (g : Graph) (l : List Part) (v : AV) (h' : H) : Prop := ∃ ov, v = .tup [ov, .int .i64 (foundR g l).2] ∧ OutR 0 h' ov (foundR g l).1
theorem FindV.of {g : Graph} {l : List Part} {out : List (List Step)} {n : Int} (hr : foundR g l = (out, n)) {ov : AV} {h' : H} (ho : OutR 0 h' ov out) : FindV g l (.tup [ov, .int .i64 n]) h' := ⟨ov, by rw [hr], by rw [hr]; exact ho⟩
theorem Find22_sp (g : Graph) (hg : Small g) (l : List Part) (hl : l.length < 1099511627776) (h : H) : Spc 22 [g.av, parts l] h (FindV g l) := by
  refine sg ok22 rfl ?_
  have hf := FormatQ_ok l hl
  have hright := Right_ok g hg
  unfold parts at hf
  unfold Graph.av Graph.cells at hright
  have hbad : ∀ n : Int, foundR g l = ([], n) → ∀ h', FindV g l (.tup [.nils, .int .i64 n]) h' := fun n hn h' => FindV.of hn (.inl ⟨rfl, rfl⟩)
  have hgood := fun {out : List (List Step)} {n : Int} (hr : foundR g l = (out, n)) {ov : AV} {h' : H} (ho : OutR 0 h' ov out) => FindV.of hr ho
  by_cases c1 : fmtE l = 0
  · rw [c1] at hf
    cases c2 : rightR g with
    | false =>
      rw [c2] at hright
      have e := hbad 1 (by unfold foundR; rw [if_pos (.inr c2)])
      generalize FindV g l = Ψ at *
      clear hbad hgood
      repeat' (first
        | (simp (disch := omega) [go_sem, S22, parts, Graph.av, Graph.cells, *])
        | (omega)
        | (with_reducible refine Br_dec (fun hp => ?_) (fun hp => ?_))
        | (with_reducible refine Br_not ?_)
        | (with_reducible refine Br_bool (fun hp => ?_) (fun hp => ?_))
        | (with_reducible refine bG_dec (fun hp => ?_) (fun hp => ?_))
        | (with_reducible refine bG_bool' (fun hp => ?_) (fun hp => ?_))
        | (refine bC_pure hf fun v hv => ?_; obtain ⟨t, rfl⟩ := hv)
        | (refine bC_v hright ?_)
        | (exact e)
        | ((with_reducible refine Go_regD _ _ ?hn ?_); case hn => rfl)
        | ((with_reducible refine Go_regN _ _ ?hn ?_); case hn => rfl)
        | (with_reducible refine dE_some ?_ ?_)
        | (with_reducible refine dN_some ?_ ?_)
        | (with_reducible refine dN_some' ?_ ?_)
        | ((with_reducible refine Rd_dG ?hn _ _ _ _ _ ?_); case hn => rfl)
        | (with_reducible refine dG_dec (fun hp => ?_) (fun hp => ?_))
        | (with_reducible refine dG_bool' (fun hp => ?_) (fun hp => ?_))
        | (with_reducible refine Rd_nil' ?_))
    | true =>
      rw [c2] at hright
      have hl32 := (fmtE_zero c1).1
      obtain ⟨hr1, hr2, hr3, -⟩ := right_parts c2
      have hgn := hg.nodes
      have hbg := fun h2 (hm : IsM h2 (h.next + 2) g l) => begin_ok h2 (h.next + 2) g l hm hl32
      have hto := fun (h2 : H) (F : IsF h2 (h.next + 2) (h.next + 1) g l .nils 4096 (List.replicate g.nodes.length false)) => find_to g hg c2 l hl32 (h.next + 2) (h.next + 1) 64 g.root [] .nils (freeR l 1) (List.replicate g.nodes.length false) .nils (4096, []) h2 hr2 hr3 rfl (begin_bound l) (by simp) (by rw [List.getD_eq_getElem?_getD, List.getElem?_replicate]; split <;> rfl) (by decide) (by decide) F (.inl ⟨rfl, rfl⟩) (Els.nil _ _ _ _) (fun j hj => hj.elim)
      have hS : toF g l 64 g.root [] (freeR l 1) (List.replicate g.nodes.length false) (4096, []) = startF g l := rfl
      rw [hS] at hto
      have hfr : foundR g l = if (startF g l).1 < 0 then ([], 5) else ((startF g l).2, 0) := by
        unfold foundR
        rw [if_neg]
        rintro (h | h)
        · exact h c1
        · rw [c2] at h; cases h
      clear hS
      generalize startF g l = T at *
      have e1 : T.1 < 0 → ∀ h', FindV g l (.tup [.nils, .int .i64 5]) h' := fun hc h' => hbad 5 (by rw [hfr, if_pos hc]) h'
      have e2 : ¬ T.1 < 0 → ∀ ov h' B, OutR B h' ov T.2 → FindV g l (.tup [ov, .int .i64 0]) h' := fun hc ov h' B ho => hgood (by rw [hfr, if_neg hc]) ho.low
      generalize FindV g l = Ψ at *
      clear hbad hgood hfr
      generalize freeR l 1 = b0 at *
      repeat' (first
        | (simp (disch := omega) [go_sem, S22, parts, Graph.av, Graph.cells, *])
        | (omega)
        | (with_reducible refine Br_dec (fun hp => ?_) (fun hp => ?_))
        | (with_reducible refine Br_not ?_)
        | (with_reducible refine Br_bool (fun hp => ?_) (fun hp => ?_))
        | (with_reducible refine bG_dec (fun hp => ?_) (fun hp => ?_))
        | (with_reducible refine bG_bool' (fun hp => ?_) (fun hp => ?_))
        | (refine bC_pure hf fun v hv => ?_; obtain ⟨t, rfl⟩ := hv)
        | (refine bC_v hright ?_)
        | (refine dC_spec (hbg _ ⟨[.nils, .int .i64 4096, .sl (h.next + 1) 0 1 g.nodes.length g.nodes.length true], 103, some 0, by simp (disch := omega) [go_sem, parts], by simp [go_sem]⟩) fun v h2 hv => ?_; obtain ⟨rfl, hk⟩ := hv; have k1 := hk.1; have k2 := hk.2; clear hk; simp only [go_sem] at k1; have k3 : h2.get h.next = some (.cells [.fsl false 3 (g.nodes.map Node.av), .int .i64 g.root] 24 (some 0)) := (by rw [k2 _ (by simp only [go_sem]; omega)]; simp (disch := omega) [go_sem]))
        | (refine dC_spec (hto _ ⟨by rw [k2 _ (by simp [go_sem])]; simp (disch := omega) [go_sem, parts], by rw [k2 _ (by simp only [go_sem]; omega)]; simp (disch := omega) [go_sem], by omega, by omega⟩) fun v h3 hv => ?_; obtain ⟨rfl, ov3, ⟨f1, f2, f3, f4⟩, hO, hK, hs⟩ := hv; unfold parts at f1; have k4 : h3.get h.next = h2.get h.next := hK.2.1 _ (by omega) (by omega) (by omega) (fun hc => hc); rw [k3] at k4; clear hto hbg k2 hK k3)
        | ((with_reducible refine Go_regD _ _ ?hn ?_); case hn => rfl)
        | ((with_reducible refine Go_regN _ _ ?hn ?_); case hn => rfl)
        | (with_reducible refine dE_some ?_ ?_)
        | (with_reducible refine dN_some ?_ ?_)
        | (with_reducible refine dN_some' ?_ ?_)
        | ((with_reducible refine Rd_dG ?hn _ _ _ _ _ ?_); case hn => rfl)
        | (with_reducible refine dG_dec (fun hp => ?_) (fun hp => ?_))
        | (with_reducible refine dG_bool' (fun hp => ?_) (fun hp => ?_))
        | (with_reducible refine Rd_nil' ?_))
  · have e := hbad 1 (by unfold foundR; rw [if_pos (.inl c1)])
    generalize FindV g l = Ψ at *
    clear hbad hgood
    repeat' (first
      | (simp (disch := omega) [go_sem, S22, parts, Graph.av, Graph.cells, *])
      | (omega)
      | (with_reducible refine Br_dec (fun hp => ?_) (fun hp => ?_))
      | (with_reducible refine Br_not ?_)
      | (with_reducible refine Br_bool (fun hp => ?_) (fun hp => ?_))
      | (with_reducible refine bG_dec (fun hp => ?_) (fun hp => ?_))
      | (with_reducible refine bG_bool' (fun hp => ?_) (fun hp => ?_))
      | (refine bC_pure hf fun v hv => ?_; obtain ⟨t, rfl⟩ := hv)
      | (refine bC_v hright ?_)
      | (exact e)
      | ((with_reducible refine Go_regD _ _ ?hn ?_); case hn => rfl)
      | ((with_reducible refine Go_regN _ _ ?hn ?_); case hn => rfl)
      | (with_reducible refine dE_some ?_ ?_)
      | (with_reducible refine dN_some ?_ ?_)
      | (with_reducible refine dN_some' ?_ ?_)
      | ((with_reducible refine Rd_dG ?hn _ _ _ _ _ ?_); case hn => rfl)
      | (with_reducible refine dG_dec (fun hp => ?_) (fun hp => ?_))
      | (with_reducible refine dG_bool' (fun hp => ?_) (fun hp => ?_))
      | (with_reducible refine Rd_nil' ?_))
theorem FindV.fz {g : Graph} {l : List Part} {v : AV} {h' : H} (hv : FindV g l v h') : ∃ v1, Go.Eng.fz (fun _ => false) h' 8 v = some v1 ∧ Le v1 (.tup [ways (foundR g l).1, .int .i64 (foundR g l).2]) := by
  obtain ⟨ov, rfl, ho⟩ := hv
  obtain ⟨v1, q1, q2⟩ := ho.fz (p := fun _ => false) 1 (fun _ _ => rfl)
  refine ⟨.tup [v1, .int .i64 (foundR g l).2], ?_, Le.tup ⟨q2, Le.refl _, trivial⟩⟩
  simp only [go_sem, q1]
theorem Find22_ok (g : Graph) (hg : Small g) (l : List Part) (hl : l.length < 1099511627776) : Pur 22 [g.av, parts l] fun v => v = .tup [ways (foundR g l).1, .int .i64 (foundR g l).2] :=
  Pure.of 8 (by simp [AV.clL, cl_graph, cl_parts]) hG0 fun h0 => (Find22_sp g hg l hl h0).mono fun v h1 hv => by
    obtain ⟨v1, q1, q2⟩ := hv.fz
    exact ⟨_, v1, q1, q2, rfl⟩
def labs : List AV → List Nat
  | [] => []
  | .sl l _ _ _ _ _ :: vs => l :: labs vs
  | _ :: vs => labs vs
theorem labs_mem {l o z n c : Nat} {x : Bool} : ∀ {vs : List AV}, AV.sl l o z n c x ∈ vs → l ∈ labs vs
  | v :: vs, h => by
    rcases List.mem_cons.1 h with rfl | h
    · exact List.mem_cons_self
    · have := labs_mem h
      cases v <;> simp only [labs] <;> first | exact this | exact List.mem_cons_of_mem _ this
theorem mem_labs {l : Nat} : ∀ {vs : List AV}, l ∈ labs vs → ∃ o z n c x, AV.sl l o z n c x ∈ vs
  | v :: vs, h => by
    have go : l ∈ labs vs → ∃ o z n c x, AV.sl l o z n c x ∈ v :: vs := fun h => by
      obtain ⟨o, z, n, c, x, hm⟩ := mem_labs h
      exact ⟨o, z, n, c, x, List.mem_cons_of_mem _ hm⟩
    cases v with
    | sl l' o z n c x =>
      simp only [labs] at h
      rcases List.mem_cons.1 h with rfl | h
      · exact ⟨o, z, n, c, x, List.mem_cons_self⟩
      · exact go h
    | _ => exact go h
theorem OutR.own {h : H} {ov : AV} {out : List (List Step)} (ho : OutR 0 h ov out) : ∃ L1 : List Nat, ov.own L1.contains = true ∧ ∀ l ∈ L1, ∀ o, h.get l = some o → o.own L1.contains = true := by
  rcases ho with ⟨rfl, rfl⟩ | ⟨l, vs, rfl, h2, h3, h4, h5, h6, h7⟩
  · exact ⟨[], rfl, by simp⟩
  · have hw : ∀ v ∈ vs, v = .nils ∨ ∃ l' w, v = .sl l' 0 3 (List.length w) w.length false ∧ h.get l' = some (.cells ((w.map Step.av).flatMap AV.cells) 85 (some 0)) := fun v hv => by
      obtain ⟨j, hj, rfl⟩ := List.mem_iff_getElem.1 hv
      rcases h7 j _ out[j] (List.getElem?_eq_getElem hj) (List.getElem?_eq_getElem (by omega)) with ⟨k1, _⟩ | ⟨l', k1, _, _, _, k2⟩
      · exact .inl k1
      · exact .inr ⟨l', _, k1, k2⟩
    refine ⟨l :: labs vs, by simp [AV.own], fun k hk o ho => ?_⟩
    rcases List.mem_cons.1 hk with rfl | hk
    · rw [h5] at ho
      injection ho with ho; subst ho
      refine ownL_of fun c hc => ?_
      rcases hw c hc with rfl | ⟨l', w, rfl, _⟩
      · rfl
      · simp [AV.own, labs_mem hc]
    · obtain ⟨o', z, n, c, x, hm⟩ := mem_labs hk
      rcases hw _ hm with h8 | ⟨l', w, h8, h9⟩
      · cases h8
      · injection h8 with h8
        subst h8
        rw [h9] at ho
        injection ho with ho; subst ho
        refine ownL_of fun c hc => ?_
        obtain ⟨y, hy, hcy⟩ := List.mem_flatMap.1 hc
        obtain ⟨x, _, rfl⟩ := List.mem_map.1 hy
        simp only [Step.av, AV.cells, Step.cells, List.mem_cons, List.not_mem_nil, or_false] at hcy
        rcases hcy with rfl | rfl | rfl <;> rfl
theorem fz_graph {p : Nat → Bool} {h : H} (d : Nat) (g : Graph) : Go.Eng.fz p h (d + 3) g.av = some g.av := by
  have h1 : AV.clL p (g.nodes.map Node.av) = true := clL_map _ _ cl_node
  unfold Graph.av Graph.cells
  simp [go_sem, Go.Eng.fz, h1]
theorem Find22_lend (g : Graph) (hg : Small g) (l : List Part) (hl : l.length < 1099511627776) (h : H) (x : AV) (d : Nat) (hx : ∃ y, Go.Eng.fz (fun _ => false) h (d + 3) x = some y ∧ Le y (parts l)) : Spc 22 [g.av, x] h fun v h' => v = .tup [ways (foundR g l).1, .int .i64 (foundR g l).2] ∧ h' = h := by
  obtain ⟨y, hx, hle⟩ := hx
  exact Spec.lend (xs1 := [g.av, y]) (xs' := [g.av, parts l]) (d + 4) 8 (by rw [fzL_cons, fzL_cons, fz_graph, hx]; simp only [fzL]; rfl) ⟨Le.refl _, hle, trivial⟩ hG0 ((Find22_sp g hg l hl _).mono fun v h1 hv => by
    obtain ⟨v1, q1, q2⟩ := hv.fz
    obtain ⟨ov, rfl, ho⟩ := hv
    obtain ⟨L1, o1, o2⟩ := ho.own
    exact ⟨L1, _, v1, by simp [AV.own, AV.ownL, o1], o2, q1, q2, rfl⟩)
end Go.Eng.Tryz
set_option maxRecDepth 20000
set_option maxHeartbeats 1000000
namespace Go.Eng
theorem Pure.of0 {P : Program} {U : List (TypeId × TypeId)} {G : Nat → AV} {f : FuncId} {xs : List AV} (d : Nat) {Q : AV → Prop} (hx : AV.clL (fun _ => false) xs = true) (hGc : ∀ g, (G g).cl (fun _ => false) = true)
    (hs : Spec P U G f xs ⟨0, .nil⟩ fun v0 h1 => ∃ v v1, fz (fun _ => false) h1 d v0 = some v1 ∧ Le v1 v ∧ Q v) : Pure P U G f xs Q := by
  intro h s w vs hsU hr hG hvs
  let s0 : St := ⟨fun _ => none, s.F, s.U, 0⟩
  have r0 : Rel s0 ⟨0, .nil⟩ w := ⟨Nat.le_refl _, fun l b d m hl => (by cases hl), fun l b d m hl => (by cases hl), hr.Flt, fun l l' b d m d' m' h1 => (by cases h1), fun l b d m o hl => (by cases hl)⟩
  have hG0 : GlobR s0 w G := ⟨fun g => VR_cl (s := s) (s' := s0) (p := fun _ => false) (fun l x hp => by cases hp) (fun _ h => h) (hGc g) (hG.val g), hG.whole⟩
  have hv0 : VRs s0 w xs vs.toList := VRs_cl (s := s) (s' := s0) (p := fun _ => false) (fun l x hp => by cases hp) (fun _ h => h) hx hvs
  refine (hs s0 w vs hsU r0 hG0 hv0).mono ?_
  rintro r w' ⟨v0, h1, s1, ⟨v, v1, q1, q2, q3⟩, r1, st, hv⟩
  let s2 : St := ⟨s.ρ, fun b => s1.F b ∨ (w.heap.size ≤ b ∧ b < w'.heap.size ∧ ∃ l d m, s1.ρ l = some (b, d, m) ∧ (h1.get l).isSome = true), s.U, s.n⟩
  have F2 : ∀ b, s1.F b → s2.F b := fun b hb => .inl hb
  have N2 : ∀ l b d m, s1.ρ l = some (b, d, m) → (fun _ : Nat => false) l = false → (h1.get l).isSome = true → s2.F b := by
    intro l b d m hl _ hlv
    refine .inr ⟨?_, (r1.lt l b d m hl).2, l, d, m, hl, hlv⟩
    rcases st.ext.back l b d m hl with ⟨l', d', m', h'⟩ | h'
    · cases h'
    · exact h'
  have kp : Keep s w w' := ⟨st.keep.os, st.keep.tape, st.keep.output, st.keep.size, fun b hb hn => st.keep.block b hb fun l d m hl => by cases hl⟩
  have stp : Step s w s2 w' := by
    refine ⟨⟨⟨fun _ _ h => h, fun b hb => .inl (st.ext.F b hb), rfl, fun l b d m h => .inl ⟨l, d, m, h⟩, fun b hb => ?_⟩, kp⟩, Nat.le_refl _, fun _ _ => rfl⟩
    rcases hb with hb | ⟨hb, _⟩
    · exact st.ext.Fback b hb
    · exact .inr hb
  refine ⟨v, h, s2, ⟨q3, rfl⟩, ?_, stp, q2 _ _ _ (fz_sound (p := fun _ => false) r1 (fun l x hp => by cases hp) F2 N2 q1 hv)⟩
  refine ⟨hr.low, fun l b d m hl => ?_, fun l b d m hl hF => ?_, fun b hb => ?_, fun l l' b d m d' m' h1 h2 g1 g2 => hr.inj l l' b d m d' m' h1 h2 g1 g2, fun l b d m o hl ho => ?_⟩
  · exact ⟨(hr.lt l b d m hl).1, Nat.lt_of_lt_of_le (hr.lt l b d m hl).2 kp.size⟩
  · have hlt := (hr.lt l b d m hl).2
    rcases hF with hF | ⟨hF, _⟩
    · rcases st.ext.Fback b hF with h' | h'
      · exact hr.apart l b d m hl h'
      · omega
    · omega
  · rcases hb with hb | ⟨_, hb, _⟩
    · exact r1.Flt b hb
    · exact hb
  · exact ObjR.mono' stp.toMono hr.apart (hr.obj l b d m o hl ho) (st.keep.block b (hr.lt l b d m hl).2 fun l0 d0 m0 h0' => by cases h0')
end Go.Eng
namespace Go.Eng.Tryz
open Go.Eng Go.Proofs Go.RowKit
def trimmedL (s c : List Nat) : List Nat := ofB (Lib.trimLeftS (toL s) (toL c))
theorem trimLeft_ok (s c : List Nat) (hc : c.length < 4294967281) (ha : ∀ x ∈ c, x < 128) : Puv 199 [.str s, .str c] (.str (trimmedL s c)) := by
  refine PureV.of_calls (HasBody.of Go.Proofs.Tryz.func199 (by kernel_rfl) (by kernel_rfl)) fun st w vs hG hvs => ?_
  obtain ⟨v, u, rfl, hv, hu⟩ := open2 hvs
  rw [openS hv, openS hu]
  refine (Any.strings_TrimLeft_laid Go.Proofs.Tryz.lays161 (by kernel_rfl) (toB s) (toB c) w (by rw [toB_size]; exact hc) (fun j b hb => ?_)).mono ?_
  · rw [toB_list] at hb
    obtain ⟨x, hx, rfl⟩ := List.mem_map.1 (List.mem_of_getElem? hb)
    have := ha x hx
    simp; omega
  · rintro e w' ⟨rfl, hw⟩
    exact ⟨_, rfl, hw, fun s' w' => by rw [toB_list, toB_list]; exact VR_ofB _ _ _⟩
end Go.Eng.Tryz
set_option maxRecDepth 20000
namespace Go.Eng.Tryz
open Go.Eng Go.Proofs Go.RowKit
def tab : FT :=
 (.n (.n (.n (.n .e
 47 ⟨48, [.t 2,.c 3 2 true], S47⟩
 .e)
 98 ⟨18, [], S98⟩
 (.n .e
 99 ⟨13, [.t 2], S99⟩
 .e))
 100 ⟨27, [.c 2 4 true], S100⟩
 (.n (.n .e
 146 ⟨21, [.t 4], S146⟩
 .e)
 147 ⟨66, [.c 4 4 true], S147⟩
 (.n .e
 148 ⟨18, [], S148⟩
 .e)))
 149 ⟨72, [.t 4], S149⟩
 (.n (.n (.n .e
 181 ⟨11, [.t 4,.t 5], S181⟩
 .e)
 182 ⟨18, [.t 4], S182⟩
 (.n .e
 183 ⟨23, [], S183⟩
 .e))
 185 ⟨8, [.t 4], S185⟩
 (.n (.n .e
 211 ⟨15, [.t 4,.t 5], S211⟩
 .e)
 214 ⟨18, [.t 4], S214⟩
 .e)))
theorem tab_ok : tab.All Go.Proofs.Tryz.prog :=
 ⟨⟨⟨⟨trivial, ok47, trivial⟩, ok98, ⟨trivial, ok99, trivial⟩⟩, ok100, ⟨⟨trivial, ok146, trivial⟩, ok147, ⟨trivial, ok148, trivial⟩⟩⟩, ok149, ⟨⟨⟨trivial, ok181, trivial⟩, ok182, ⟨trivial, ok183, trivial⟩⟩, ok185, ⟨⟨trivial, ok211, trivial⟩, ok214, trivial⟩⟩⟩
def nat1 : CF := fun f xs h => match xs with
  | [.str s, .str c] => if Nat.beq f 199 && Nat.ble c.length 1000 && c.all (fun x => Nat.ble (x + 1) 128) then some (.str (trimmedL s c), h) else none
  | _ => none
theorem nat1_ok : ∀ f xs h v h', nat1 f xs h = some (v, h') → Spc f xs h fun v1 h1 => v1 = v ∧ h1 = h' := by
  intro f xs h v h' hr
  unfold nat1 at hr
  split at hr
  · rename_i s c
    split at hr
    · rename_i hc
      simp only [Bool.and_eq_true] at hc
      obtain ⟨⟨h1, h2⟩, h3⟩ := hc
      have hf := Nat.eq_of_beq_eq_true h1
      subst hf
      injection hr with hr; injection hr with e1 e2
      subst e1; subst e2
      have hl := Nat.le_of_ble_eq_true h2
      exact trimLeft_ok s c (by omega) (fun x hx => by
        have := Nat.le_of_ble_eq_true (List.all_eq_true.1 h3 x hx)
        omega) h
    · cases hr
  · cases hr
def text47 : List Nat := [97, 91, 107, 61, 119, 93, 46, 98]
def l47 : List Part := [⟨1, [97], [], 0⟩, ⟨6, [107], [119], 0⟩, ⟨1, [98], [], 0⟩]
def run47 : Option (AV × H) := runF tab.get nat1 U0 G0 60 60 47 [.str text47] ⟨0, .nil⟩
def ok47R (x : Option (AV × H)) : Bool := match x with
  | some (v, h) => AV.beq v (.tup [.sl 12 0 4 3 3 false, .agg [.int .i64 0, .int .i64 0]]) && (match h.get 12 with
    | some (.cells cs _ _) => beqL cs ((l47.map Part.av).flatMap AV.cells)
    | _ => false)
  | none => false
theorem run47_ok : ok47R run47 = true := by kernel_rfl
theorem Parse47_ok : Puv 47 [.str text47] (.tup [parts l47, .agg [.int .i64 0, .int .i64 0]]) := by
  refine Pure.of0 8 (Q := fun v => v = _) (by simp [AV.clL, AV.cl]) hG0 ?_
  have hr := run47_ok
  cases hx : run47 with
  | none => rw [hx] at hr; cases hr
  | some p =>
    obtain ⟨v, h⟩ := p
    rw [hx] at hr
    simp only [ok47R, Bool.and_eq_true] at hr
    obtain ⟨hr1, hr2⟩ := hr
    have e1 := AV.beq_eq _ _ hr1
    split at hr2
    · rename_i cs t f hg
      have e2 := beqL_eq _ _ hr2
      refine (runF_sound hU0 hm0 (FT.ok tab_ok) nat1_ok 60 _ _ _ _ _ hx).mono ?_
      rintro v1 h1 ⟨rfl, rfl⟩
      subst e1
      rw [e2] at hg
      refine ⟨_, .tup [parts l47, .agg [.int .i64 0, .int .i64 0]], ?_, Le.refl _, rfl⟩
      unfold parts l47 Part.av Part.cells
      unfold l47 Part.av Part.cells at hg
      simp [go_sem, hg, fzS, sub, chunks, mkE, AV.cells]
    · cases hr2
end Go.Eng.Tryz
set_option maxRecDepth 20000
set_option maxHeartbeats 1000000
namespace Go.Eng.Tryz
open Go.Eng Go.Proofs Go.RowKit
def lDb : List Part := [⟨3, [], [], 0⟩, ⟨1, [98], [], 0⟩]
theorem found47 : foundR houseG l47 = ([[⟨[97], 0, false⟩, ⟨[], 1, true⟩, ⟨[98], 0, false⟩]], 0) := by kernel_rfl
theorem foundDb : foundR houseG lDb = ([[⟨[97], 0, false⟩, ⟨[], 0, true⟩, ⟨[98], 0, false⟩], [⟨[97], 0, false⟩, ⟨[], 1, true⟩, ⟨[98], 0, false⟩]], 0) := by kernel_rfl
theorem small_house : Small houseG := by
  refine ⟨by decide, fun n hn => ?_⟩
  have h : houseG.nodes.all (fun n => decide (n.text.length < 1073741824) && decide (n.kids.length < 1073741824)) = true := by decide
  have := List.all_eq_true.1 h n hn
  simpa using this
theorem alive_ok : Puv 17 [] (.bool true) := by
  refine pv ok17 rfl rfl fun h => ?_
  have h1 := Parse47_ok
  have h2 := house_ok
  have h3 := Find22_ok houseG small_house l47 (by decide)
  have h4 := fun (h : H) x hx => Find22_lend houseG small_house lDb (by decide) h x 3 hx
  rw [found47] at h3
  rw [foundDb] at h4
  unfold text47 at h1
  generalize houseG.av = gv at *
  repeat' (first
    | (simp (disch := omega) [go_sem, S17, ways, steps, Step.av, Step.cells, *])
    | (omega)
    | (with_reducible refine Br_dec (fun hp => ?_) (fun hp => ?_))
    | (with_reducible refine Br_not ?_)
    | (with_reducible refine Br_bool (fun hp => ?_) (fun hp => ?_))
    | (with_reducible refine bG_dec (fun hp => ?_) (fun hp => ?_))
    | (with_reducible refine bG_bool' (fun hp => ?_) (fun hp => ?_))
    | (refine bC_v h1 ?_)
    | (refine bC_pure h2 fun v hv => ?_; subst hv)
    | (refine bC_pure h3 fun v hv => ?_; subst hv)
    | (refine bC_spec (h4 _ _ ⟨.fsl true 4 (lDb.map Part.av), by simp (disch := omega) [go_sem, fzS, sub, chunks, mkE, lDb, Part.av, Part.cells, AV.cells], Le.fsl _ _ _⟩) fun v h2 hv => ?_; obtain ⟨rfl, hh⟩ := hv; subst h2)
    | ((with_reducible refine Go_regD _ _ ?hn ?_); case hn => rfl)
    | ((with_reducible refine Go_regN _ _ ?hn ?_); case hn => rfl)
    | (with_reducible refine dE_some ?_ ?_)
    | (with_reducible refine dN_some ?_ ?_)
    | (with_reducible refine dN_some' ?_ ?_)
    | ((with_reducible refine Rd_dG ?hn _ _ _ _ _ ?_); case hn => rfl)
    | (with_reducible refine dG_dec (fun hp => ?_) (fun hp => ?_))
    | (with_reducible refine dG_bool' (fun hp => ?_) (fun hp => ?_))
    | (with_reducible refine Rd_nil' ?_))
end Go.Eng.Tryz
set_option maxRecDepth 20000
set_option maxHeartbeats 1000000
namespace Go.Eng.Tryz
open Go.Eng Go.Proofs Go.RowKit
theorem QueryMeet_ok (g : Graph) (hg : Small g) (a b : List Part) (ha : a.length < 1073741824) (hb : b.length < 1073741824) : Puv 5 [g.av, parts a, parts b] (.bool true) := by
  refine pv ok5 (by simp [AV.clL, cl_graph, cl_parts]) rfl fun h => ?_
  have hlg := large_ok g hg.nodes
  have hla := long_ok a ha
  have hlb := long_ok b hb
  have hal := alive_ok
  unfold Graph.av Graph.cells at hlg
  unfold parts at hla hlb
  cases c1 : largeR g with
  | true =>
    rw [c1] at hlg
    repeat' (first
      | (simp (disch := omega) [go_sem, S5, Graph.av, Graph.cells, parts, *])
      | (omega)
      | (with_reducible refine Br_dec (fun hp => ?_) (fun hp => ?_))
      | (with_reducible refine Br_not ?_)
      | (with_reducible refine Br_bool (fun hp => ?_) (fun hp => ?_))
      | (with_reducible refine bG_dec (fun hp => ?_) (fun hp => ?_))
      | (with_reducible refine bG_bool' (fun hp => ?_) (fun hp => ?_))
      | (refine bC_v hlg ?_)
      | (refine bC_v hal ?_)
      | ((with_reducible refine Go_regD _ _ ?hn ?_); case hn => rfl)
      | ((with_reducible refine Go_regN _ _ ?hn ?_); case hn => rfl)
      | (with_reducible refine dE_some ?_ ?_)
      | (with_reducible refine dN_some ?_ ?_)
      | (with_reducible refine dN_some' ?_ ?_)
      | ((with_reducible refine Rd_dG ?hn _ _ _ _ _ ?_); case hn => rfl)
      | (with_reducible refine dG_dec (fun hp => ?_) (fun hp => ?_))
      | (with_reducible refine dG_bool' (fun hp => ?_) (fun hp => ?_))
      | (with_reducible refine Rd_nil' ?_))
  | false =>
    rw [c1] at hlg
    cases c2 : longR a with
    | true =>
      rw [c2] at hla
      repeat' (first
        | (simp (disch := omega) [go_sem, S5, Graph.av, Graph.cells, parts, *])
        | (omega)
        | (with_reducible refine Br_dec (fun hp => ?_) (fun hp => ?_))
        | (with_reducible refine Br_not ?_)
        | (with_reducible refine Br_bool (fun hp => ?_) (fun hp => ?_))
        | (with_reducible refine bG_dec (fun hp => ?_) (fun hp => ?_))
        | (with_reducible refine bG_bool' (fun hp => ?_) (fun hp => ?_))
        | (refine bC_v hlg ?_)
        | (refine bC_v hla ?_)
        | (refine bC_v hal ?_)
        | ((with_reducible refine Go_regD _ _ ?hn ?_); case hn => rfl)
        | ((with_reducible refine Go_regN _ _ ?hn ?_); case hn => rfl)
        | (with_reducible refine dE_some ?_ ?_)
        | (with_reducible refine dN_some ?_ ?_)
        | (with_reducible refine dN_some' ?_ ?_)
        | ((with_reducible refine Rd_dG ?hn _ _ _ _ _ ?_); case hn => rfl)
        | (with_reducible refine dG_dec (fun hp => ?_) (fun hp => ?_))
        | (with_reducible refine dG_bool' (fun hp => ?_) (fun hp => ?_))
        | (with_reducible refine Rd_nil' ?_))
    | false =>
      rw [c2] at hla
      cases c3 : longR b with
      | true =>
        rw [c3] at hlb
        repeat' (first
          | (simp (disch := omega) [go_sem, S5, Graph.av, Graph.cells, parts, *])
          | (omega)
          | (with_reducible refine Br_dec (fun hp => ?_) (fun hp => ?_))
          | (with_reducible refine Br_not ?_)
          | (with_reducible refine Br_bool (fun hp => ?_) (fun hp => ?_))
          | (with_reducible refine bG_dec (fun hp => ?_) (fun hp => ?_))
          | (with_reducible refine bG_bool' (fun hp => ?_) (fun hp => ?_))
          | (refine bC_v hlg ?_)
          | (refine bC_v hla ?_)
          | (refine bC_v hlb ?_)
          | (refine bC_v hal ?_)
          | ((with_reducible refine Go_regD _ _ ?hn ?_); case hn => rfl)
          | ((with_reducible refine Go_regN _ _ ?hn ?_); case hn => rfl)
          | (with_reducible refine dE_some ?_ ?_)
          | (with_reducible refine dN_some ?_ ?_)
          | (with_reducible refine dN_some' ?_ ?_)
          | ((with_reducible refine Rd_dG ?hn _ _ _ _ _ ?_); case hn => rfl)
          | (with_reducible refine dG_dec (fun hp => ?_) (fun hp => ?_))
          | (with_reducible refine dG_bool' (fun hp => ?_) (fun hp => ?_))
          | (with_reducible refine Rd_nil' ?_))
      | false =>
        rw [c3] at hlb
        have hta := theirs_ok a ha
        have htb := theirs_ok b hb
        have hfd := Find22_ok g hg a (by omega)
        have hmt := Meet_ok a b (by omega) (by omega)
        have hms := Meet_ok a a (by omega) (by omega)
        have hmc := fun w => Match_ok g hg b w (by omega)
        have hL := fun h => law_meet (b := b) c1 (a := a) h
        have hS := law_self (a := a)
        unfold parts at hta htb hfd hmt hms hmc
        unfold Graph.av Graph.cells at hfd hmc
        have hFl := found_len g a
        generalize foundR g a = F at *
        generalize meetR a b = M1 at *
        generalize meetR a a = M2 at *
        by_cases d1 : F.2 = 0
        · by_cases d2 : M1.2 = 0
          · by_cases d3 : M2.2 = 0
            · have hS := hS d3
              have hL := hL d1 d2
              rw [d1] at hfd
              rw [d2] at hmt
              rw [d3, hS] at hms
              clear d1 d2 d3
              unfold ways at hfd
              repeat' (first
                | (simp (disch := omega) [go_sem, S5, Graph.av, Graph.cells, parts, *])
                | (omega)
                | (with_reducible refine Br_dec (fun hp => ?_) (fun hp => ?_))
                | (with_reducible refine Br_not ?_)
                | (with_reducible refine Br_bool (fun hp => ?_) (fun hp => ?_))
                | (with_reducible refine bG_dec (fun hp => ?_) (fun hp => ?_))
                | (with_reducible refine bG_bool' (fun hp => ?_) (fun hp => ?_))
                | (refine bC_v hlg ?_)
                | (refine bC_v hla ?_)
                | (refine bC_v hlb ?_)
                | (refine bC_v hal ?_)
                | (refine bC_pure hta fun v hv => ?_; subst hv)
                | (refine dC_pure hta fun v hv => ?_; subst hv)
                | (refine bC_pure htb fun v hv => ?_; subst hv)
                | (refine dC_pure hfd fun v hv => ?_; subst hv)
                | (refine bC_v hmt ?_)
                | (refine bC_v hms ?_)
                | ((with_reducible refine Go_regD _ _ ?hn ?_); case hn => rfl)
                | ((with_reducible refine Go_regN _ _ ?hn ?_); case hn => rfl)
                | (with_reducible refine dE_some ?_ ?_)
                | (with_reducible refine dN_some ?_ ?_)
                | (with_reducible refine dN_some' ?_ ?_)
                | ((with_reducible refine Rd_dG ?hn _ _ _ _ _ ?_); case hn => rfl)
                | (with_reducible refine dG_dec (fun hp => ?_) (fun hp => ?_))
                | (with_reducible refine dG_bool' (fun hp => ?_) (fun hp => ?_))
                | (with_reducible refine Rd_nil' ?_))
              refine Go_loop (fun m e h1 => ∃ j : Nat, m = F.1.length - j ∧ j ≤ F.1.length ∧ e.get 66 = .int .i64 j ∧ e.get 65 = .int .i64 F.1.length ∧ e.get 64 = .fsl false 1 (F.1.map steps) ∧ e.get 9 = .bool M1.1 ∧ e.get 2 = .fsl false 4 (b.map Part.av) ∧ e.get 3 = .ptr h.next 0 ∧ h1.get h.next = some (.cells [.fsl false 3 (g.nodes.map Node.av), .int .i64 g.root] 24 (some 0)) ∧ h.next < h1.next) (n := F.1.length) ?_ ?_
              · refine ⟨0, by omega, by omega, ?_, ?_, ?_, ?_, ?_, ?_, ?_, ?_⟩ <;> simp (disch := omega) [go_sem]
              · rintro m e h1 ⟨j, rfl, hj, q66, q65, q64, q9, q2, q3, hgg, hn1⟩ Q hQ
                by_cases hlt : j < F.1.length
                · have hx : F.1[j]? = some F.1[j] := List.getElem?_eq_getElem hlt
                  obtain ⟨e1, e2⟩ := hL _ (List.getElem_mem hlt)
                  have hmj := hmc F.1[j]
                  rw [e1] at hmj
                  have hQ' : ∀ e' h', e'.get 66 = .int .i64 ((j : Int) + 1) → e'.get 65 = .int .i64 F.1.length → e'.get 64 = .fsl false 1 (F.1.map steps) → e'.get 9 = .bool M1.1 → e'.get 2 = .fsl false 4 (b.map Part.av) → e'.get 3 = .ptr h.next 0 → h'.get h.next = h1.get h.next → h1.next ≤ h'.next → Q e' h' :=
                    fun e' h' r1 r2 r3 r4 r5 r6 r7 r8 => hQ (F.1.length - (j + 1)) e' h' (by omega) ⟨j + 1, rfl, by omega, r1, r2, r3, r4, r5, r6, by rw [r7]; exact hgg, by omega⟩
                  clear hQ hL
                  generalize matchR g b F.1[j] = q at *
                  cases hq : q.1 with
                  | true =>
                    have e3 := e2 hq
                    rw [hq] at hmj
                    clear e2
                    repeat' (first
                      | (simp (disch := omega) [go_sem, S5, parts, steps, *])
                      | (omega)
                      | (with_reducible refine Br_dec (fun hp => ?_) (fun hp => ?_))
                      | (with_reducible refine Br_not ?_)
                      | (with_reducible refine Br_bool (fun hp => ?_) (fun hp => ?_))
                      | (with_reducible refine bG_dec (fun hp => ?_) (fun hp => ?_))
                      | (with_reducible refine bG_bool' (fun hp => ?_) (fun hp => ?_))
                      | (refine dC_pure htb fun v hv => ?_; subst hv)
                      | (refine dC_v hmj ?_)
                      | ((with_reducible refine Go_regD _ _ ?hn ?_); case hn => rfl)
                      | ((with_reducible refine Go_regN _ _ ?hn ?_); case hn => rfl)
                      | (with_reducible refine dE_some ?_ ?_)
                      | (with_reducible refine dN_some ?_ ?_)
                      | (with_reducible refine dN_some' ?_ ?_)
                      | ((with_reducible refine Rd_dG ?hn _ _ _ _ _ ?_); case hn => rfl)
                      | (with_reducible refine dG_dec (fun hp => ?_) (fun hp => ?_))
                      | (with_reducible refine dG_bool' (fun hp => ?_) (fun hp => ?_))
                      | (with_reducible refine Rd_nil' ?_))
                    refine hQ' _ _ ?_ ?_ ?_ ?_ ?_ ?_ ?_ ?_ <;> simp (disch := omega) [go_sem, *]
                  | false =>
                    rw [hq] at hmj
                    clear e2
                    repeat' (first
                      | (simp (disch := omega) [go_sem, S5, parts, steps, *])
                      | (omega)
                      | (with_reducible refine Br_dec (fun hp => ?_) (fun hp => ?_))
                      | (with_reducible refine Br_not ?_)
                      | (with_reducible refine Br_bool (fun hp => ?_) (fun hp => ?_))
                      | (with_reducible refine bG_dec (fun hp => ?_) (fun hp => ?_))
                      | (with_reducible refine bG_bool' (fun hp => ?_) (fun hp => ?_))
                      | (refine dC_pure htb fun v hv => ?_; subst hv)
                      | (refine dC_v hmj ?_)
                      | ((with_reducible refine Go_regD _ _ ?hn ?_); case hn => rfl)
                      | ((with_reducible refine Go_regN _ _ ?hn ?_); case hn => rfl)
                      | (with_reducible refine dE_some ?_ ?_)
                      | (with_reducible refine dN_some ?_ ?_)
                      | (with_reducible refine dN_some' ?_ ?_)
                      | ((with_reducible refine Rd_dG ?hn _ _ _ _ _ ?_); case hn => rfl)
                      | (with_reducible refine dG_dec (fun hp => ?_) (fun hp => ?_))
                      | (with_reducible refine dG_bool' (fun hp => ?_) (fun hp => ?_))
                      | (with_reducible refine Rd_nil' ?_))
                    refine hQ' _ _ ?_ ?_ ?_ ?_ ?_ ?_ ?_ ?_ <;> simp (disch := omega) [go_sem, *]
                · clear hQ
                  repeat' (first
                    | (simp (disch := omega) [go_sem, S5, *])
                    | (omega)
                    | (with_reducible refine Br_dec (fun hp => ?_) (fun hp => ?_))
                    | (with_reducible refine Br_not ?_)
                    | (with_reducible refine Br_bool (fun hp => ?_) (fun hp => ?_))
                    | (with_reducible refine bG_dec (fun hp => ?_) (fun hp => ?_))
                    | (with_reducible refine bG_bool' (fun hp => ?_) (fun hp => ?_))
                    | (refine bC_v hal ?_)
                    | ((with_reducible refine Go_regD _ _ ?hn ?_); case hn => rfl)
                    | ((with_reducible refine Go_regN _ _ ?hn ?_); case hn => rfl)
                    | (with_reducible refine dE_some ?_ ?_)
                    | (with_reducible refine dN_some ?_ ?_)
                    | (with_reducible refine dN_some' ?_ ?_)
                    | ((with_reducible refine Rd_dG ?hn _ _ _ _ _ ?_); case hn => rfl)
                    | (with_reducible refine dG_dec (fun hp => ?_) (fun hp => ?_))
                    | (with_reducible refine dG_bool' (fun hp => ?_) (fun hp => ?_))
                    | (with_reducible refine Rd_nil' ?_))
            · clear hL hS
              rw [d1] at hfd
              rw [d2] at hmt
              repeat' (first
                | (simp (disch := omega) [go_sem, S5, Graph.av, Graph.cells, parts, *])
                | (omega)
                | (with_reducible refine Br_dec (fun hp => ?_) (fun hp => ?_))
                | (with_reducible refine Br_not ?_)
                | (with_reducible refine Br_bool (fun hp => ?_) (fun hp => ?_))
                | (with_reducible refine bG_dec (fun hp => ?_) (fun hp => ?_))
                | (with_reducible refine bG_bool' (fun hp => ?_) (fun hp => ?_))
                | (refine bC_v hlg ?_)
                | (refine bC_v hla ?_)
                | (refine bC_v hlb ?_)
                | (refine bC_v hal ?_)
                | (refine bC_pure hta fun v hv => ?_; subst hv)
                | (refine dC_pure hta fun v hv => ?_; subst hv)
                | (refine bC_pure htb fun v hv => ?_; subst hv)
                | (refine dC_pure hfd fun v hv => ?_; subst hv)
                | (refine bC_v hmt ?_)
                | (refine bC_v hms ?_)
                | ((with_reducible refine Go_regD _ _ ?hn ?_); case hn => rfl)
                | ((with_reducible refine Go_regN _ _ ?hn ?_); case hn => rfl)
                | (with_reducible refine dE_some ?_ ?_)
                | (with_reducible refine dN_some ?_ ?_)
                | (with_reducible refine dN_some' ?_ ?_)
                | ((with_reducible refine Rd_dG ?hn _ _ _ _ _ ?_); case hn => rfl)
                | (with_reducible refine dG_dec (fun hp => ?_) (fun hp => ?_))
                | (with_reducible refine dG_bool' (fun hp => ?_) (fun hp => ?_))
                | (with_reducible refine Rd_nil' ?_))
          · clear hL hS
            rw [d1] at hfd
            repeat' (first
              | (simp (disch := omega) [go_sem, S5, Graph.av, Graph.cells, parts, *])
              | (omega)
              | (with_reducible refine Br_dec (fun hp => ?_) (fun hp => ?_))
              | (with_reducible refine Br_not ?_)
              | (with_reducible refine Br_bool (fun hp => ?_) (fun hp => ?_))
              | (with_reducible refine bG_dec (fun hp => ?_) (fun hp => ?_))
              | (with_reducible refine bG_bool' (fun hp => ?_) (fun hp => ?_))
              | (refine bC_v hlg ?_)
              | (refine bC_v hla ?_)
              | (refine bC_v hlb ?_)
              | (refine bC_v hal ?_)
              | (refine bC_pure hta fun v hv => ?_; subst hv)
              | (refine dC_pure hta fun v hv => ?_; subst hv)
              | (refine bC_pure htb fun v hv => ?_; subst hv)
              | (refine dC_pure hfd fun v hv => ?_; subst hv)
              | (refine bC_v hmt ?_)
              | (refine bC_v hms ?_)
              | ((with_reducible refine Go_regD _ _ ?hn ?_); case hn => rfl)
              | ((with_reducible refine Go_regN _ _ ?hn ?_); case hn => rfl)
              | (with_reducible refine dE_some ?_ ?_)
              | (with_reducible refine dN_some ?_ ?_)
              | (with_reducible refine dN_some' ?_ ?_)
              | ((with_reducible refine Rd_dG ?hn _ _ _ _ _ ?_); case hn => rfl)
              | (with_reducible refine dG_dec (fun hp => ?_) (fun hp => ?_))
              | (with_reducible refine dG_bool' (fun hp => ?_) (fun hp => ?_))
              | (with_reducible refine Rd_nil' ?_))
        · clear hL hS
          repeat' (first
            | (simp (disch := omega) [go_sem, S5, Graph.av, Graph.cells, parts, *])
            | (omega)
            | (with_reducible refine Br_dec (fun hp => ?_) (fun hp => ?_))
            | (with_reducible refine Br_not ?_)
            | (with_reducible refine Br_bool (fun hp => ?_) (fun hp => ?_))
            | (with_reducible refine bG_dec (fun hp => ?_) (fun hp => ?_))
            | (with_reducible refine bG_bool' (fun hp => ?_) (fun hp => ?_))
            | (refine bC_v hlg ?_)
            | (refine bC_v hla ?_)
            | (refine bC_v hlb ?_)
            | (refine bC_v hal ?_)
            | (refine bC_pure hta fun v hv => ?_; subst hv)
            | (refine dC_pure hta fun v hv => ?_; subst hv)
            | (refine bC_pure htb fun v hv => ?_; subst hv)
            | (refine dC_pure hfd fun v hv => ?_; subst hv)
            | (refine bC_v hmt ?_)
            | (refine bC_v hms ?_)
            | ((with_reducible refine Go_regD _ _ ?hn ?_); case hn => rfl)
            | ((with_reducible refine Go_regN _ _ ?hn ?_); case hn => rfl)
            | (with_reducible refine dE_some ?_ ?_)
            | (with_reducible refine dN_some ?_ ?_)
            | (with_reducible refine dN_some' ?_ ?_)
            | ((with_reducible refine Rd_dG ?hn _ _ _ _ _ ?_); case hn => rfl)
            | (with_reducible refine dG_dec (fun hp => ?_) (fun hp => ?_))
            | (with_reducible refine dG_bool' (fun hp => ?_) (fun hp => ?_))
            | (with_reducible refine Rd_nil' ?_))
end Go.Eng.Tryz
