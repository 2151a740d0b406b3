/- The law QueryAll of package grommetlaw24 answers true and turns no argument, for all arguments that are together of bulk at most 1048576; condition: the listed package variables start as the program's text lays them. (part 14.) -/
import Derived.Test.YthcjadhoplakcaaGreatDoorAll13
import Derived.Lib.TrimU
import Derived.Shelf.Unicode.DecodeLastEight
set_option linter.unusedSimpArgs false
set_option linter.unusedVariables false
set_option maxRecDepth 20000
set_option maxHeartbeats 1000000
namespace Go.Eng.Tryz
open Go.Eng Go.Proofs Go.RowKit
/-! ### the first sign -/
theorem decR_le (s : List Nat) : (decR s).1 ≤ 1114111 := by
  unfold decR Lib.decodeGo
  split
  · simp
  · exact Lib.rune_le _ _
theorem decR_width (s : List Nat) : (decR s).2 ≤ s.length ∧ (s ≠ [] → 1 ≤ (decR s).2) := by
  have h1 := Lib.decodeGo_le_size (toB s)
  rw [toB_size] at h1
  refine ⟨h1, fun hs => ?_⟩
  unfold decR Lib.decodeGo
  have : ¬ (toB s).size = 0 := by
    rw [toB_size]
    intro h0
    exact hs (List.eq_nil_of_length_eq_zero h0)
  rw [if_neg this]
  exact Lib.width_pos _ _
def firstR (s : List Nat) : Int := if (decR s).1 = 65533 ∧ (decR s).2 < 3 then -1 else (decR s).1
def widthR (s : List Nat) : Nat := (decR s).2
theorem First_ok (s : List Nat) : Puv 235 [.str s] (.tup [.int .i64 (firstR s), .int .i64 (widthR s)]) := by
  refine pv ok235 rfl rfl fun h => ?_
  have hb := decR_le s
  unfold firstR widthR
  by_cases h1 : (decR s).1 = 65533
  · by_cases h2 : (decR s).2 < 3
    · repeat' (first | (simp (disch := omega) [go_sem, S235, *]) | (omega) | (with_reducible refine Br_dec (fun hp => ?_) (fun hp => ?_)) | (with_reducible refine Br_not ?_) | (with_reducible refine Br_bool (fun hp => ?_) (fun hp => ?_)) | (with_reducible refine bG_dec (fun hp => ?_) (fun hp => ?_)) | (with_reducible refine bG_bool' (fun hp => ?_) (fun hp => ?_)) | (refine bC_v (dec_ok _) ?_) | ((with_reducible refine Go_regD _ _ ?hn ?_); case hn => rfl) | ((with_reducible refine Go_regN _ _ ?hn ?_); case hn => rfl) | (with_reducible refine dE_some ?_ ?_) | (with_reducible refine dN_some ?_ ?_) | (with_reducible refine dN_some' ?_ ?_) | ((with_reducible refine Rd_dG ?hn _ _ _ _ _ ?_); case hn => rfl) | (with_reducible refine dG_dec (fun hp => ?_) (fun hp => ?_)) | (with_reducible refine dG_bool' (fun hp => ?_) (fun hp => ?_)) | (with_reducible refine Rd_nil' ?_))
    · repeat' (first | (simp (disch := omega) [go_sem, S235, *]) | (omega) | (with_reducible refine Br_dec (fun hp => ?_) (fun hp => ?_)) | (with_reducible refine Br_not ?_) | (with_reducible refine Br_bool (fun hp => ?_) (fun hp => ?_)) | (with_reducible refine bG_dec (fun hp => ?_) (fun hp => ?_)) | (with_reducible refine bG_bool' (fun hp => ?_) (fun hp => ?_)) | (refine bC_v (dec_ok _) ?_) | ((with_reducible refine Go_regD _ _ ?hn ?_); case hn => rfl) | ((with_reducible refine Go_regN _ _ ?hn ?_); case hn => rfl) | (with_reducible refine dE_some ?_ ?_) | (with_reducible refine dN_some ?_ ?_) | (with_reducible refine dN_some' ?_ ?_) | ((with_reducible refine Rd_dG ?hn _ _ _ _ _ ?_); case hn => rfl) | (with_reducible refine dG_dec (fun hp => ?_) (fun hp => ?_)) | (with_reducible refine dG_bool' (fun hp => ?_) (fun hp => ?_)) | (with_reducible refine Rd_nil' ?_))
  · repeat' (first | (simp (disch := omega) [go_sem, S235, *]) | (omega) | (with_reducible refine Br_dec (fun hp => ?_) (fun hp => ?_)) | (with_reducible refine Br_not ?_) | (with_reducible refine Br_bool (fun hp => ?_) (fun hp => ?_)) | (with_reducible refine bG_dec (fun hp => ?_) (fun hp => ?_)) | (with_reducible refine bG_bool' (fun hp => ?_) (fun hp => ?_)) | (refine bC_v (dec_ok _) ?_) | ((with_reducible refine Go_regD _ _ ?hn ?_); case hn => rfl) | ((with_reducible refine Go_regN _ _ ?hn ?_); case hn => rfl) | (with_reducible refine dE_some ?_ ?_) | (with_reducible refine dN_some ?_ ?_) | (with_reducible refine dN_some' ?_ ?_) | ((with_reducible refine Rd_dG ?hn _ _ _ _ _ ?_); case hn => rfl) | (with_reducible refine dG_dec (fun hp => ?_) (fun hp => ?_)) | (with_reducible refine dG_bool' (fun hp => ?_) (fun hp => ?_)) | (with_reducible refine Rd_nil' ?_))
/-! ### all signs -/
def decW : Nat → List Nat → Nat → List Int × Nat
  | 0, _, i => ([], i)
  | f + 1, s, i => if i < s.length then
      if firstR (s.drop i) < 0 then ([firstR (s.drop i)], i) else (firstR (s.drop i) :: (decW f s (i + widthR (s.drop i))).1, (decW f s (i + widthR (s.drop i))).2)
    else ([], i)
def decT (s : List Nat) (i : Nat) : List Int × Nat := decW (s.length - i) s i
theorem decW_more (s : List Nat) : ∀ (f i : Nat), s.length - i ≤ f → decW f s i = decW (s.length - i) s i
  | f, i, hf => by
    induction f using Nat.strongRecOn generalizing i with
    | _ f ih =>
      by_cases hi : i < s.length
      · obtain ⟨f', rfl⟩ : ∃ f', f = f' + 1 := ⟨f - 1, by omega⟩
        obtain ⟨g, hg⟩ : ∃ g, s.length - i = g + 1 := ⟨s.length - i - 1, by omega⟩
        have hw := (decR_width (s.drop i)).2 (by intro h0; have : (s.drop i).length = 0 := by rw [h0]; rfl
                                                 rw [List.length_drop] at this; omega)
        have hw' : 1 ≤ widthR (s.drop i) := hw
        rw [hg]
        simp only [decW]
        rw [ih f' (by omega) (i + widthR (s.drop i)) (by omega)]
        by_cases hgf : g < f' + 1
        · rw [ih g hgf (i + widthR (s.drop i)) (by omega)]
        · omega
      · have h0 : s.length - i = 0 := by omega
        rw [h0]
        cases f with
        | zero => rfl
        | succ f => simp only [decW, if_neg hi]
theorem decT_end {s : List Nat} {i : Nat} (h : ¬ i < s.length) : decT s i = ([], i) := by
  have : s.length - i = 0 := by omega
  unfold decT; rw [this]; rfl
theorem drop_ne {s : List Nat} {i : Nat} (h : i < s.length) : s.drop i ≠ [] := by
  intro h0
  have : (s.drop i).length = 0 := by rw [h0]; rfl
  rw [List.length_drop] at this; omega
theorem width_bounds {s : List Nat} {i : Nat} (h : i < s.length) : 1 ≤ widthR (s.drop i) ∧ i + widthR (s.drop i) ≤ s.length := by
  have h1 := (decR_width (s.drop i)).2 (drop_ne h)
  have h2 := (decR_width (s.drop i)).1
  rw [List.length_drop] at h2
  exact ⟨h1, by unfold widthR; omega⟩
theorem decT_bad {s : List Nat} {i : Nat} (h : i < s.length) (hb : firstR (s.drop i) < 0) : decT s i = ([firstR (s.drop i)], i) := by
  obtain ⟨g, hg⟩ : ∃ g, s.length - i = g + 1 := ⟨s.length - i - 1, by omega⟩
  unfold decT; rw [hg]; simp only [decW, if_pos h, if_pos hb]
theorem decT_good {s : List Nat} {i : Nat} (h : i < s.length) (hb : ¬ firstR (s.drop i) < 0) : decT s i = (firstR (s.drop i) :: (decT s (i + widthR (s.drop i))).1, (decT s (i + widthR (s.drop i))).2) := by
  obtain ⟨g, hg⟩ : ∃ g, s.length - i = g + 1 := ⟨s.length - i - 1, by omega⟩
  have hw := (width_bounds h).1
  unfold decT
  rw [hg]
  simp only [decW, if_pos h, if_neg hb]
  rw [decW_more s g _ (by omega)]
theorem take_ok (r : Int) (L : Nat) (h : H) (v : AV) (es : List AV) (hL : L < h.next) (hg : h.get L = some (.cells [v] 66 (some 0))) (hs : Els (L + 1) h v 1 3 es) (hr : es.length < 1099511627776) :
    Spc 209 [.int .i64 r, .ptr L 0] h fun b h' => b = .bool (decide (0 ≤ r)) ∧ ∃ v', h'.get L = some (.cells [v'] 66 (some 0)) ∧ Els (L + 1) h' v' 1 3 (es ++ [.int .i64 r]) ∧ h.next ≤ h'.next ∧ ∀ j, j < L → h'.get j = h.get j := by
  refine sg ok209 rfl ?_
  repeat' (first | (simp (disch := omega) [go_sem, S209, *]) | (omega) | (with_reducible refine Br_dec (fun hp => ?_) (fun hp => ?_)) | (with_reducible refine Br_not ?_) | (with_reducible refine Br_bool (fun hp => ?_) (fun hp => ?_)) | (with_reducible refine bG_dec (fun hp => ?_) (fun hp => ?_)) | (with_reducible refine bG_bool' (fun hp => ?_) (fun hp => ?_)) | ((with_reducible refine Go_regD _ _ ?hn ?_); case hn => rfl) | ((with_reducible refine Go_regN _ _ ?hn ?_); case hn => rfl) | (with_reducible refine dE_some ?_ ?_) | (with_reducible refine dN_some ?_ ?_) | (with_reducible refine dN_some' ?_ ?_) | ((with_reducible refine Rd_dG ?hn _ _ _ _ _ ?_); case hn => rfl) | (with_reducible refine dG_dec (fun hp => ?_) (fun hp => ?_)) | (with_reducible refine dG_bool' (fun hp => ?_) (fun hp => ?_)) | (with_reducible refine Rd_nil' ?_))
  refine bE_app (x := .int .i64 r) (B := L + 1) (es := es) (hs.same (by simp [go_sem]) fun j h1 h2 => ?_) (by simp [go_sem]; omega) (okE_leaf rfl) rfl (by omega) fun v' h' hn ho hs' => ?_
  · simp (disch := omega) [go_sem]
  obtain ⟨k1, k2, k3⟩ := hs'.elt
  have hgL : h'.get L = some (.cells [v] 66 (some 0)) := by
    rw [ho L (by omega)]
    simp (disch := omega) [go_sem, hg]
  repeat' (first | (simp (disch := omega) [go_sem, S209, *]) | (omega) | (with_reducible refine Br_dec (fun hp => ?_) (fun hp => ?_)) | (with_reducible refine Br_not ?_) | (with_reducible refine Br_bool (fun hp => ?_) (fun hp => ?_)) | (with_reducible refine bG_dec (fun hp => ?_) (fun hp => ?_)) | (with_reducible refine bG_bool' (fun hp => ?_) (fun hp => ?_)) | ((with_reducible refine Go_regD _ _ ?hn ?_); case hn => rfl) | ((with_reducible refine Go_regN _ _ ?hn ?_); case hn => rfl) | (with_reducible refine dE_some ?_ ?_) | (with_reducible refine dN_some ?_ ?_) | (with_reducible refine dN_some' ?_ ?_) | ((with_reducible refine Rd_dG ?hn _ _ _ _ _ ?_); case hn => rfl) | (with_reducible refine dG_dec (fun hp => ?_) (fun hp => ?_)) | (with_reducible refine dG_bool' (fun hp => ?_) (fun hp => ?_)) | (with_reducible refine Rd_nil' ?_))
  refine ⟨hs'.same (by simp [go_sem]) (fun j h1 h2 => by simp (disch := omega) [go_sem]), by omega, fun j hj => ?_⟩
  have := ho j (by omega)
  simp (disch := omega) [go_sem] at this ⊢
  exact this
theorem walk_ok (s : List Nat) (L : Nat) (h : H) (hl : s.length < 1099511627776) (hL : L < h.next) (hg : h.get L = some (.cells [.nils] 66 (some 0))) :
    Spc 208 [.str s, .fn 209 [] [.ptr L 0]] h fun b h' => b = .int .i64 (decT s 0).2 ∧ ∃ v', h'.get L = some (.cells [v'] 66 (some 0)) ∧ Els (L + 1) h' v' 1 3 ((decT s 0).1.map (AV.int .i64)) ∧ h.next ≤ h'.next ∧ ∀ j, j < L → h'.get j = h.get j := by
  refine sg ok208 rfl ?_
  repeat' (first | (simp (disch := omega) [go_sem, S208, *]) | (omega) | (with_reducible refine Br_dec (fun hp => ?_) (fun hp => ?_)) | (with_reducible refine Br_not ?_) | (with_reducible refine Br_bool (fun hp => ?_) (fun hp => ?_)) | (with_reducible refine bG_dec (fun hp => ?_) (fun hp => ?_)) | (with_reducible refine bG_bool' (fun hp => ?_) (fun hp => ?_)) | ((with_reducible refine Go_regD _ _ ?hn ?_); case hn => rfl) | ((with_reducible refine Go_regN _ _ ?hn ?_); case hn => rfl) | (with_reducible refine dE_some ?_ ?_) | (with_reducible refine dN_some ?_ ?_) | (with_reducible refine dN_some' ?_ ?_) | ((with_reducible refine Rd_dG ?hn _ _ _ _ _ ?_); case hn => rfl) | (with_reducible refine dG_dec (fun hp => ?_) (fun hp => ?_)) | (with_reducible refine dG_bool' (fun hp => ?_) (fun hp => ?_)) | (with_reducible refine Rd_nil' ?_))
  refine Go_loop (fun n e h1 => ∃ i : Nat, ∃ v : AV, ∃ es : List Int, n = s.length - i ∧ i ≤ s.length ∧ es.length ≤ i ∧ e.get 5 = .int .i64 i ∧ e.get 0 = .str s ∧ e.get 1 = .fn 209 [] [.ptr L 0]
    ∧ decT s 0 = (es ++ (decT s i).1, (decT s i).2) ∧ L < h1.next ∧ h1.get L = some (.cells [v] 66 (some 0)) ∧ Els (L + 1) h1 v 1 3 (es.map (AV.int .i64)) ∧ h.next ≤ h1.next ∧ ∀ j, j < L → h1.get j = h.get j) (n := s.length) ?_ ?_
  · refine ⟨0, .nils, [], by omega, by omega, by simp, ?_, ?_, ?_, by simp, hL, hg, Els.nil _ _ _ _, Nat.le_refl _, fun _ _ => rfl⟩ <;> simp [go_sem]
  · rintro n e h1 ⟨i, v, es, rfl, hi, hes, h5, h0, hf, hd, hL1, hg1, hs1, hn1, ho1⟩ Q hQ
    by_cases hlt : i < s.length
    · have hw := width_bounds hlt
      repeat' (first | (simp (disch := omega) [go_sem, S208, *]) | (omega) | (with_reducible refine Br_dec (fun hp => ?_) (fun hp => ?_)) | (with_reducible refine Br_not ?_) | (with_reducible refine Br_bool (fun hp => ?_) (fun hp => ?_)) | (with_reducible refine bG_dec (fun hp => ?_) (fun hp => ?_)) | (with_reducible refine bG_bool' (fun hp => ?_) (fun hp => ?_)) | (refine bC_v (First_ok _) ?_) | ((with_reducible refine Go_regD _ _ ?hn ?_); case hn => rfl) | ((with_reducible refine Go_regN _ _ ?hn ?_); case hn => rfl) | (with_reducible refine dE_some ?_ ?_) | (with_reducible refine dN_some ?_ ?_) | (with_reducible refine dN_some' ?_ ?_) | ((with_reducible refine Rd_dG ?hn _ _ _ _ _ ?_); case hn => rfl) | (with_reducible refine dG_dec (fun hp => ?_) (fun hp => ?_)) | (with_reducible refine dG_bool' (fun hp => ?_) (fun hp => ?_)) | (with_reducible refine Rd_nil' ?_))
      refine bC_spec (take_ok _ L h1 v (es.map (AV.int .i64)) hL1 hg1 hs1 (by simp; omega)) (fun b h2 ⟨hb, v', k1, k2, k3, k4⟩ => ?_)
      subst hb
      by_cases hneg : firstR (s.drop i) < 0
      · have hdb := decT_bad hlt hneg
        have hng : ¬ 0 ≤ firstR (s.drop i) := by omega
        clear hQ
        repeat' (first | (simp (disch := omega) [go_sem, S208, *]) | (omega) | (with_reducible refine Br_dec (fun hp => ?_) (fun hp => ?_)) | (with_reducible refine Br_not ?_) | (with_reducible refine Br_bool (fun hp => ?_) (fun hp => ?_)) | (with_reducible refine bG_dec (fun hp => ?_) (fun hp => ?_)) | (with_reducible refine bG_bool' (fun hp => ?_) (fun hp => ?_)) | ((with_reducible refine Go_regD _ _ ?hn ?_); case hn => rfl) | ((with_reducible refine Go_regN _ _ ?hn ?_); case hn => rfl) | (with_reducible refine dE_some ?_ ?_) | (with_reducible refine dN_some ?_ ?_) | (with_reducible refine dN_some' ?_ ?_) | ((with_reducible refine Rd_dG ?hn _ _ _ _ _ ?_); case hn => rfl) | (with_reducible refine dG_dec (fun hp => ?_) (fun hp => ?_)) | (with_reducible refine dG_bool' (fun hp => ?_) (fun hp => ?_)) | (with_reducible refine Rd_nil' ?_))
        exact ⟨by omega, fun j hj => by rw [k4 j (by omega), ho1 j hj]⟩
      · have hdg := decT_good hlt hneg
        have hng : 0 ≤ firstR (s.drop i) := by omega
        have hgo : ∀ e' : Env, e'.get 5 = .int .i64 ((i + widthR (s.drop i) : Nat) : Int) → e'.get 0 = .str s → e'.get 1 = .fn 209 [] [.ptr L 0] → Q e' h2 := fun e' q1 q2 q3 =>
          hQ _ e' h2 (show s.length - (i + widthR (s.drop i)) < s.length - i by omega) ⟨i + widthR (s.drop i), v', es ++ [firstR (s.drop i)], rfl, by omega, by simp; omega, q1, q2, q3, by rw [hd, hdg]; simp, by omega, k1, by simpa using k2, by omega, fun j hj => by rw [k4 j (by omega), ho1 j hj]⟩
        clear hQ hd hdg
        repeat' (first | (simp (disch := omega) [go_sem, S208, *]) | (omega) | (with_reducible refine Br_dec (fun hp => ?_) (fun hp => ?_)) | (with_reducible refine Br_not ?_) | (with_reducible refine Br_bool (fun hp => ?_) (fun hp => ?_)) | (with_reducible refine bG_dec (fun hp => ?_) (fun hp => ?_)) | (with_reducible refine bG_bool' (fun hp => ?_) (fun hp => ?_)) | ((with_reducible refine Go_regD _ _ ?hn ?_); case hn => rfl) | ((with_reducible refine Go_regN _ _ ?hn ?_); case hn => rfl) | (with_reducible refine dE_some ?_ ?_) | (with_reducible refine dN_some ?_ ?_) | (with_reducible refine dN_some' ?_ ?_) | ((with_reducible refine Rd_dG ?hn _ _ _ _ _ ?_); case hn => rfl) | (with_reducible refine dG_dec (fun hp => ?_) (fun hp => ?_)) | (with_reducible refine dG_bool' (fun hp => ?_) (fun hp => ?_)) | (with_reducible refine Rd_nil' ?_))
        exact hgo _ (by simp [go_sem]) (by simp [go_sem]) (by simp [go_sem])
    · have hend := decT_end hlt
      clear hQ
      repeat' (first | (simp (disch := omega) [go_sem, S208, *]) | (omega) | (with_reducible refine Br_dec (fun hp => ?_) (fun hp => ?_)) | (with_reducible refine Br_not ?_) | (with_reducible refine Br_bool (fun hp => ?_) (fun hp => ?_)) | (with_reducible refine bG_dec (fun hp => ?_) (fun hp => ?_)) | (with_reducible refine bG_bool' (fun hp => ?_) (fun hp => ?_)) | ((with_reducible refine Go_regD _ _ ?hn ?_); case hn => rfl) | ((with_reducible refine Go_regN _ _ ?hn ?_); case hn => rfl) | (with_reducible refine dE_some ?_ ?_) | (with_reducible refine dN_some ?_ ?_) | (with_reducible refine dN_some' ?_ ?_) | ((with_reducible refine Rd_dG ?hn _ _ _ _ _ ?_); case hn => rfl) | (with_reducible refine dG_dec (fun hp => ?_) (fun hp => ?_)) | (with_reducible refine dG_bool' (fun hp => ?_) (fun hp => ?_)) | (with_reducible refine Rd_nil' ?_))
theorem fault_ok (s : List Nat) (i : Nat) : Puv 210 [.str s, .int .i64 i] (if i < s.length then .agg [.int .i64 8, .int .i64 i] else .agg [.int .i64 0, .int .i64 0]) := by
  refine pv ok210 rfl rfl fun h => ?_
  by_cases hi : i < s.length
  · repeat' (first | (simp (disch := omega) [go_sem, S210, *]) | (omega) | (with_reducible refine Br_dec (fun hp => ?_) (fun hp => ?_)) | (with_reducible refine Br_not ?_) | (with_reducible refine Br_bool (fun hp => ?_) (fun hp => ?_)) | (with_reducible refine bG_dec (fun hp => ?_) (fun hp => ?_)) | (with_reducible refine bG_bool' (fun hp => ?_) (fun hp => ?_)) | ((with_reducible refine Go_regD _ _ ?hn ?_); case hn => rfl) | ((with_reducible refine Go_regN _ _ ?hn ?_); case hn => rfl) | (with_reducible refine dE_some ?_ ?_) | (with_reducible refine dN_some ?_ ?_) | (with_reducible refine dN_some' ?_ ?_) | ((with_reducible refine Rd_dG ?hn _ _ _ _ _ ?_); case hn => rfl) | (with_reducible refine dG_dec (fun hp => ?_) (fun hp => ?_)) | (with_reducible refine dG_bool' (fun hp => ?_) (fun hp => ?_)) | (with_reducible refine Rd_nil' ?_))
  · repeat' (first | (simp (disch := omega) [go_sem, S210, *]) | (omega) | (with_reducible refine Br_dec (fun hp => ?_) (fun hp => ?_)) | (with_reducible refine Br_not ?_) | (with_reducible refine Br_bool (fun hp => ?_) (fun hp => ?_)) | (with_reducible refine bG_dec (fun hp => ?_) (fun hp => ?_)) | (with_reducible refine bG_bool' (fun hp => ?_) (fun hp => ?_)) | ((with_reducible refine Go_regD _ _ ?hn ?_); case hn => rfl) | ((with_reducible refine Go_regN _ _ ?hn ?_); case hn => rfl) | (with_reducible refine dE_some ?_ ?_) | (with_reducible refine dN_some ?_ ?_) | (with_reducible refine dN_some' ?_ ?_) | ((with_reducible refine Rd_dG ?hn _ _ _ _ _ ?_); case hn => rfl) | (with_reducible refine dG_dec (fun hp => ?_) (fun hp => ?_)) | (with_reducible refine dG_bool' (fun hp => ?_) (fun hp => ?_)) | (with_reducible refine Rd_nil' ?_))
def decOk (s : List Nat) : Bool := decide (s.length ≤ (decT s 0).2)
def decFault (s : List Nat) : AV := if decOk s then .agg [.int .i64 0, .int .i64 0] else .agg [.int .i64 8, .int .i64 (decT s 0).2]
def decSigns (s : List Nat) : List Int := if decOk s then (decT s 0).1 else []
def decodeV (s : List Nat) : AV := .tup [.fsl false 1 ((decSigns s).map (AV.int .i64)), decFault s]
theorem Decode_ok (s : List Nat) (hl : s.length < 1099511627776) : Pur 177 [.str s] fun v => v = decodeV s := by
  refine pq ok177 rfl rfl fun h => ?_
  repeat' (first | (simp (disch := omega) [go_sem, S177, *]) | (omega) | (with_reducible refine Br_dec (fun hp => ?_) (fun hp => ?_)) | (with_reducible refine Br_not ?_) | (with_reducible refine Br_bool (fun hp => ?_) (fun hp => ?_)) | (with_reducible refine bG_dec (fun hp => ?_) (fun hp => ?_)) | (with_reducible refine bG_bool' (fun hp => ?_) (fun hp => ?_)) | ((with_reducible refine Go_regD _ _ ?hn ?_); case hn => rfl) | ((with_reducible refine Go_regN _ _ ?hn ?_); case hn => rfl) | (with_reducible refine dE_some ?_ ?_) | (with_reducible refine dN_some ?_ ?_) | (with_reducible refine dN_some' ?_ ?_) | ((with_reducible refine Rd_dG ?hn _ _ _ _ _ ?_); case hn => rfl) | (with_reducible refine dG_dec (fun hp => ?_) (fun hp => ?_)) | (with_reducible refine dG_bool' (fun hp => ?_) (fun hp => ?_)) | (with_reducible refine Rd_nil' ?_))
  refine bC_spec (walk_ok s (h.next + 1) _ hl ?_ ?_) (fun b h2 ⟨hb, v', k1, k2, k3, k4⟩ => ?_)
  · simp [go_sem]
  · simp (disch := omega) [go_sem]
  subst hb
  simp only [go_sem] at k3
  have k5 : h2.get h.next = some (.cells [.int .i64 0, .int .i64 0] 81 (some 0)) := by
    rw [k4 h.next (by omega)]
    simp (disch := omega) [go_sem]
  clear k4
  have k2' := fun (h3 : H) (hn : h2.next ≤ h3.next) (hg : ∀ j, h.next + 1 + 1 ≤ j → j < h2.next → h3.get j = h2.get j) => (k2.same hn hg).fz (p := fun _ => false) (d := 5) (fun _ _ => rfl) (fzL_of fun c hc => by
    simp only [List.mem_flatMap, List.mem_map] at hc
    obtain ⟨e, ⟨r, _, rfl⟩, hc⟩ := hc
    simp only [AV.cells, List.mem_singleton] at hc
    subst hc
    simp [go_sem])
  by_cases hi : (decT s 0).2 < s.length
  · have hok : decOk s = false := by simp [decOk]; omega
    repeat' (first | (simp (disch := omega) [go_sem, S177, *]) | (omega) | (with_reducible refine Br_dec (fun hp => ?_) (fun hp => ?_)) | (with_reducible refine Br_not ?_) | (with_reducible refine Br_bool (fun hp => ?_) (fun hp => ?_)) | (with_reducible refine bG_dec (fun hp => ?_) (fun hp => ?_)) | (with_reducible refine bG_bool' (fun hp => ?_) (fun hp => ?_)) | (refine bC_v (fault_ok _ _) ?_) | ((with_reducible refine Go_regD _ _ ?hn ?_); case hn => rfl) | ((with_reducible refine Go_regN _ _ ?hn ?_); case hn => rfl) | (with_reducible refine dE_some ?_ ?_) | (with_reducible refine dN_some ?_ ?_) | (with_reducible refine dN_some' ?_ ?_) | ((with_reducible refine Rd_dG ?hn _ _ _ _ _ ?_); case hn => rfl) | (with_reducible refine dG_dec (fun hp => ?_) (fun hp => ?_)) | (with_reducible refine dG_bool' (fun hp => ?_) (fun hp => ?_)) | (with_reducible refine Rd_nil' ?_))
    simp only [decodeV, decFault, decSigns, hok]
    exact Le.tup ⟨Le.nils _ _, Le.refl _, trivial⟩
  · have hok : decOk s = true := by simp [decOk]; omega
    repeat' (first | (simp (disch := omega) [go_sem, S177, *]) | (omega) | (with_reducible refine Br_dec (fun hp => ?_) (fun hp => ?_)) | (with_reducible refine Br_not ?_) | (with_reducible refine Br_bool (fun hp => ?_) (fun hp => ?_)) | (with_reducible refine bG_dec (fun hp => ?_) (fun hp => ?_)) | (with_reducible refine bG_bool' (fun hp => ?_) (fun hp => ?_)) | (refine bC_v (fault_ok _ _) ?_) | ((with_reducible refine Go_regD _ _ ?hn ?_); case hn => rfl) | ((with_reducible refine Go_regN _ _ ?hn ?_); case hn => rfl) | (with_reducible refine dE_some ?_ ?_) | (with_reducible refine dN_some ?_ ?_) | (with_reducible refine dN_some' ?_ ?_) | ((with_reducible refine Rd_dG ?hn _ _ _ _ _ ?_); case hn => rfl) | (with_reducible refine dG_dec (fun hp => ?_) (fun hp => ?_)) | (with_reducible refine dG_bool' (fun hp => ?_) (fun hp => ?_)) | (with_reducible refine Rd_nil' ?_))
    refine fin_tup1 (k2' _ ?_ ?_) ?_
    · simp only [go_sem]; omega
    · intro j h1 h2
      simp (disch := omega) [go_sem]
    · simp only [decodeV, decFault, decSigns, hok, if_true]
end Go.Eng.Tryz
set_option maxRecDepth 20000
set_option maxHeartbeats 1000000
namespace Go.Eng.Tryz
open Go.Eng Go.Proofs Go.RowKit
/-! ### plain -/
theorem atoiAll_range {l : List UInt8} {n : Int} (h : Lib.atoiAll l = .ok n) : -9223372036854775808 ≤ n ∧ n ≤ 9223372036854775807 := by
  unfold Lib.atoiAll at h
  split at h
  · cases h
  · simp only at h
    split at h
    · cases h
    · cases h
    · split at h
      · cases h
      · split at h
        · cases h
        · injection h with h
          subst h
          split <;> omega
def numR (s : List Nat) : Option Int := match Lib.atoiAll (toL s) with
  | .ok n => if itoa n = s then some n else none
  | _ => none
def numV (s : List Nat) : AV := match numR s with
  | some n => .tup [.int .i64 n, .bool true]
  | none => .tup [.int .i64 0, .bool false]
theorem Text_ok (n : Int) (h0 : -9223372036854775808 ≤ n) (h1 : n ≤ 9223372036854775807) : Puv 206 [.int .i64 n] (.str (itoa n)) := by
  refine pv ok206 rfl rfl fun h => ?_
  repeat' (first | (simp (disch := omega) [go_sem, S206, *]) | (omega) | (with_reducible refine Br_dec (fun hp => ?_) (fun hp => ?_)) | (with_reducible refine Br_not ?_) | (with_reducible refine Br_bool (fun hp => ?_) (fun hp => ?_)) | (with_reducible refine bG_dec (fun hp => ?_) (fun hp => ?_)) | (with_reducible refine bG_bool' (fun hp => ?_) (fun hp => ?_)) | (refine bC_v (itoa_ok _ h0 h1) ?_) | ((with_reducible refine Go_regD _ _ ?hn ?_); case hn => rfl) | ((with_reducible refine Go_regN _ _ ?hn ?_); case hn => rfl) | (with_reducible refine dE_some ?_ ?_) | (with_reducible refine dN_some ?_ ?_) | (with_reducible refine dN_some' ?_ ?_) | ((with_reducible refine Rd_dG ?hn _ _ _ _ _ ?_); case hn => rfl) | (with_reducible refine dG_dec (fun hp => ?_) (fun hp => ?_)) | (with_reducible refine dG_bool' (fun hp => ?_) (fun hp => ?_)) | (with_reducible refine Rd_nil' ?_))
theorem Number_ok (s : List Nat) (hl : s.length ≤ 281474976710656) : Puv 207 [.str s] (numV s) := by
  refine pv ok207 rfl rfl fun h => ?_
  unfold numV numR
  repeat' (first | (simp (disch := omega) [go_sem, S207, *]) | (omega) | (with_reducible refine Br_dec (fun hp => ?_) (fun hp => ?_)) | (with_reducible refine Br_not ?_) | (with_reducible refine Br_bool (fun hp => ?_) (fun hp => ?_)) | (with_reducible refine bG_dec (fun hp => ?_) (fun hp => ?_)) | (with_reducible refine bG_bool' (fun hp => ?_) (fun hp => ?_)) | ((with_reducible refine Go_regD _ _ ?hn ?_); case hn => rfl) | ((with_reducible refine Go_regN _ _ ?hn ?_); case hn => rfl) | (with_reducible refine dE_some ?_ ?_) | (with_reducible refine dN_some ?_ ?_) | (with_reducible refine dN_some' ?_ ?_) | ((with_reducible refine Rd_dG ?hn _ _ _ _ _ ?_); case hn => rfl) | (with_reducible refine dG_dec (fun hp => ?_) (fun hp => ?_)) | (with_reducible refine dG_bool' (fun hp => ?_) (fun hp => ?_)) | (with_reducible refine Rd_nil' ?_))
  refine bC_v (atoi_ok s hl) ?_
  unfold atoiV
  cases hat : Lib.atoiAll (toL s) with
  | ok n =>
    obtain ⟨h0, h1⟩ := atoiAll_range hat
    by_cases he : itoa n = s
    · repeat' (first | (simp (disch := omega) [go_sem, S207, *]) | (omega) | (with_reducible refine Br_dec (fun hp => ?_) (fun hp => ?_)) | (with_reducible refine Br_not ?_) | (with_reducible refine Br_bool (fun hp => ?_) (fun hp => ?_)) | (with_reducible refine bG_dec (fun hp => ?_) (fun hp => ?_)) | (with_reducible refine bG_bool' (fun hp => ?_) (fun hp => ?_)) | (refine bC_v (Text_ok _ h0 h1) ?_) | ((with_reducible refine Go_regD _ _ ?hn ?_); case hn => rfl) | ((with_reducible refine Go_regN _ _ ?hn ?_); case hn => rfl) | (with_reducible refine dE_some ?_ ?_) | (with_reducible refine dN_some ?_ ?_) | (with_reducible refine dN_some' ?_ ?_) | ((with_reducible refine Rd_dG ?hn _ _ _ _ _ ?_); case hn => rfl) | (with_reducible refine dG_dec (fun hp => ?_) (fun hp => ?_)) | (with_reducible refine dG_bool' (fun hp => ?_) (fun hp => ?_)) | (with_reducible refine Rd_nil' ?_))
    · repeat' (first | (simp (disch := omega) [go_sem, S207, *]) | (omega) | (with_reducible refine Br_dec (fun hp => ?_) (fun hp => ?_)) | (with_reducible refine Br_not ?_) | (with_reducible refine Br_bool (fun hp => ?_) (fun hp => ?_)) | (with_reducible refine bG_dec (fun hp => ?_) (fun hp => ?_)) | (with_reducible refine bG_bool' (fun hp => ?_) (fun hp => ?_)) | (refine bC_v (Text_ok _ h0 h1) ?_) | ((with_reducible refine Go_regD _ _ ?hn ?_); case hn => rfl) | ((with_reducible refine Go_regN _ _ ?hn ?_); case hn => rfl) | (with_reducible refine dE_some ?_ ?_) | (with_reducible refine dN_some ?_ ?_) | (with_reducible refine dN_some' ?_ ?_) | ((with_reducible refine Rd_dG ?hn _ _ _ _ _ ?_); case hn => rfl) | (with_reducible refine dG_dec (fun hp => ?_) (fun hp => ?_)) | (with_reducible refine dG_bool' (fun hp => ?_) (fun hp => ?_)) | (with_reducible refine Rd_nil' ?_))
  | range => repeat' (first | (simp (disch := omega) [go_sem, S207, *]) | (omega) | (with_reducible refine Br_dec (fun hp => ?_) (fun hp => ?_)) | (with_reducible refine Br_not ?_) | (with_reducible refine Br_bool (fun hp => ?_) (fun hp => ?_)) | (with_reducible refine bG_dec (fun hp => ?_) (fun hp => ?_)) | (with_reducible refine bG_bool' (fun hp => ?_) (fun hp => ?_)) | ((with_reducible refine Go_regD _ _ ?hn ?_); case hn => rfl) | ((with_reducible refine Go_regN _ _ ?hn ?_); case hn => rfl) | (with_reducible refine dE_some ?_ ?_) | (with_reducible refine dN_some ?_ ?_) | (with_reducible refine dN_some' ?_ ?_) | ((with_reducible refine Rd_dG ?hn _ _ _ _ _ ?_); case hn => rfl) | (with_reducible refine dG_dec (fun hp => ?_) (fun hp => ?_)) | (with_reducible refine dG_bool' (fun hp => ?_) (fun hp => ?_)) | (with_reducible refine Rd_nil' ?_))
  | _ => repeat' (first | (simp (disch := omega) [go_sem, S207, *]) | (omega) | (with_reducible refine Br_dec (fun hp => ?_) (fun hp => ?_)) | (with_reducible refine Br_not ?_) | (with_reducible refine Br_bool (fun hp => ?_) (fun hp => ?_)) | (with_reducible refine bG_dec (fun hp => ?_) (fun hp => ?_)) | (with_reducible refine bG_bool' (fun hp => ?_) (fun hp => ?_)) | ((with_reducible refine Go_regD _ _ ?hn ?_); case hn => rfl) | ((with_reducible refine Go_regN _ _ ?hn ?_); case hn => rfl) | (with_reducible refine dE_some ?_ ?_) | (with_reducible refine dN_some ?_ ?_) | (with_reducible refine dN_some' ?_ ?_) | ((with_reducible refine Rd_dG ?hn _ _ _ _ _ ?_); case hn => rfl) | (with_reducible refine dG_dec (fun hp => ?_) (fun hp => ?_)) | (with_reducible refine dG_bool' (fun hp => ?_) (fun hp => ?_)) | (with_reducible refine Rd_nil' ?_))
def resolveR (s : List Nat) : Int :=
  if s = [] ∨ s = [126] ∨ s = [110, 117, 108, 108] then 1 else if s = [116, 114, 117, 101] ∨ s = [102, 97, 108, 115, 101] then 2 else if (numR s).isSome then 3 else 4
theorem Resolve_ok (s : List Nat) (hl : s.length ≤ 281474976710656) : Puv 176 [.str s] (.int .i64 (resolveR s)) := by
  refine pv ok176 rfl rfl fun h => ?_
  unfold resolveR
  have hn := Number_ok s hl
  unfold numV at hn
  cases hs : numR s with
  | none =>
    rw [hs] at hn
    repeat' (first | (simp (disch := omega) [go_sem, S176, *]) | (omega) | (with_reducible refine Br_dec (fun hp => ?_) (fun hp => ?_)) | (with_reducible refine Br_not ?_) | (with_reducible refine Br_bool (fun hp => ?_) (fun hp => ?_)) | (with_reducible refine bG_dec (fun hp => ?_) (fun hp => ?_)) | (with_reducible refine bG_bool' (fun hp => ?_) (fun hp => ?_)) | (refine bC_v hn ?_) | ((with_reducible refine Go_regD _ _ ?hn ?_); case hn => rfl) | ((with_reducible refine Go_regN _ _ ?hn ?_); case hn => rfl) | (with_reducible refine dE_some ?_ ?_) | (with_reducible refine dN_some ?_ ?_) | (with_reducible refine dN_some' ?_ ?_) | ((with_reducible refine Rd_dG ?hn _ _ _ _ _ ?_); case hn => rfl) | (with_reducible refine dG_dec (fun hp => ?_) (fun hp => ?_)) | (with_reducible refine dG_bool' (fun hp => ?_) (fun hp => ?_)) | (with_reducible refine Rd_nil' ?_))
  | some n =>
    rw [hs] at hn
    repeat' (first | (simp (disch := omega) [go_sem, S176, *]) | (omega) | (with_reducible refine Br_dec (fun hp => ?_) (fun hp => ?_)) | (with_reducible refine Br_not ?_) | (with_reducible refine Br_bool (fun hp => ?_) (fun hp => ?_)) | (with_reducible refine bG_dec (fun hp => ?_) (fun hp => ?_)) | (with_reducible refine bG_bool' (fun hp => ?_) (fun hp => ?_)) | (refine bC_v hn ?_) | ((with_reducible refine Go_regD _ _ ?hn ?_); case hn => rfl) | ((with_reducible refine Go_regN _ _ ?hn ?_); case hn => rfl) | (with_reducible refine dE_some ?_ ?_) | (with_reducible refine dN_some ?_ ?_) | (with_reducible refine dN_some' ?_ ?_) | ((with_reducible refine Rd_dG ?hn _ _ _ _ _ ?_); case hn => rfl) | (with_reducible refine dG_dec (fun hp => ?_) (fun hp => ?_)) | (with_reducible refine dG_bool' (fun hp => ?_) (fun hp => ?_)) | (with_reducible refine Rd_nil' ?_))
/-! ### graphs -/
structure Node where
  kind : Int
  text : List Nat
  kids : List Int
structure Graph where
  nodes : List Node
  root : Int
def ints (l : List Int) : AV := .fsl false 1 (l.map (AV.int .i64))
def Node.cells (n : Node) : List AV := [.int .i64 n.kind, .str n.text, ints n.kids]
def Node.av (n : Node) : AV := .agg n.cells
def Graph.cells (g : Graph) : List AV := [.fsl false 3 (g.nodes.map Node.av), .int .i64 g.root]
def Graph.av (g : Graph) : AV := .agg g.cells
theorem cl_ints {p : Nat → Bool} (l : List Int) : AV.cl p (ints l) = true := by
  unfold ints; simp only [AV.cl]; exact clL_map _ _ fun _ => rfl
theorem cl_node {p : Nat → Bool} (n : Node) : AV.cl p n.av = true := by
  simp [Node.av, Node.cells, AV.cl, AV.clL, cl_ints]
theorem cl_graph {p : Nat → Bool} (g : Graph) : AV.cl p g.av = true := by
  simp only [Graph.av, Graph.cells, AV.cl, AV.clL, Bool.and_true]
  exact clL_map _ _ cl_node
def isScalarR (k : Int) : Bool := decide (1 ≤ k) && decide (k ≤ 4)
theorem isScalar_ok (k : Int) : Puv 138 [.int .i64 k] (.bool (isScalarR k)) := by
  refine pv ok138 rfl rfl fun h => ?_
  unfold isScalarR
  repeat' (first | (simp (disch := omega) [go_sem, S138, *]) | (omega) | (with_reducible refine Br_dec (fun hp => ?_) (fun hp => ?_)) | (with_reducible refine Br_not ?_) | (with_reducible refine Br_bool (fun hp => ?_) (fun hp => ?_)) | (with_reducible refine bG_dec (fun hp => ?_) (fun hp => ?_)) | (with_reducible refine bG_bool' (fun hp => ?_) (fun hp => ?_)) | ((with_reducible refine Go_regD _ _ ?hn ?_); case hn => rfl) | ((with_reducible refine Go_regN _ _ ?hn ?_); case hn => rfl) | (with_reducible refine dE_some ?_ ?_) | (with_reducible refine dN_some ?_ ?_) | (with_reducible refine dN_some' ?_ ?_) | ((with_reducible refine Rd_dG ?hn _ _ _ _ _ ?_); case hn => rfl) | (with_reducible refine dG_dec (fun hp => ?_) (fun hp => ?_)) | (with_reducible refine dG_bool' (fun hp => ?_) (fun hp => ?_)) | (with_reducible refine Rd_nil' ?_))
def isTextR (k : Int) (s : List Nat) : Bool := if k = 2 ∨ k = 3 then decide (resolveR s = k) else if k = 4 then decOk s else decide (s = [])
theorem isText_ok (k : Int) (s : List Nat) (hl : s.length < 1099511627776) : Puv 137 [.int .i64 k, .str s] (.bool (isTextR k s)) := by
  refine pv ok137 rfl rfl fun h => ?_
  unfold isTextR
  have hd := Decode_ok s hl
  unfold decodeV decFault decSigns at hd
  cases hs : decOk s with
  | true =>
    rw [hs] at hd
    simp only [if_true] at hd
    repeat' (first | (simp (disch := omega) [go_sem, S137, *]) | (omega) | (with_reducible refine Br_dec (fun hp => ?_) (fun hp => ?_)) | (with_reducible refine Br_not ?_) | (with_reducible refine Br_bool (fun hp => ?_) (fun hp => ?_)) | (with_reducible refine bG_dec (fun hp => ?_) (fun hp => ?_)) | (with_reducible refine bG_bool' (fun hp => ?_) (fun hp => ?_)) | (refine bC_v (Resolve_ok _ (by omega)) ?_) | (refine bC_v hd ?_) | ((with_reducible refine Go_regD _ _ ?hn ?_); case hn => rfl) | ((with_reducible refine Go_regN _ _ ?hn ?_); case hn => rfl) | (with_reducible refine dE_some ?_ ?_) | (with_reducible refine dN_some ?_ ?_) | (with_reducible refine dN_some' ?_ ?_) | ((with_reducible refine Rd_dG ?hn _ _ _ _ _ ?_); case hn => rfl) | (with_reducible refine dG_dec (fun hp => ?_) (fun hp => ?_)) | (with_reducible refine dG_bool' (fun hp => ?_) (fun hp => ?_)) | (with_reducible refine Rd_nil' ?_))
  | false =>
    rw [hs] at hd
    simp only [Bool.false_eq_true, if_false] at hd
    repeat' (first | (simp (disch := omega) [go_sem, S137, *]) | (omega) | (with_reducible refine Br_dec (fun hp => ?_) (fun hp => ?_)) | (with_reducible refine Br_not ?_) | (with_reducible refine Br_bool (fun hp => ?_) (fun hp => ?_)) | (with_reducible refine bG_dec (fun hp => ?_) (fun hp => ?_)) | (with_reducible refine bG_bool' (fun hp => ?_) (fun hp => ?_)) | (refine bC_v (Resolve_ok _ (by omega)) ?_) | (refine bC_v hd ?_) | ((with_reducible refine Go_regD _ _ ?hn ?_); case hn => rfl) | ((with_reducible refine Go_regN _ _ ?hn ?_); case hn => rfl) | (with_reducible refine dE_some ?_ ?_) | (with_reducible refine dN_some ?_ ?_) | (with_reducible refine dN_some' ?_ ?_) | ((with_reducible refine Rd_dG ?hn _ _ _ _ _ ?_); case hn => rfl) | (with_reducible refine dG_dec (fun hp => ?_) (fun hp => ?_)) | (with_reducible refine dG_bool' (fun hp => ?_) (fun hp => ?_)) | (with_reducible refine Rd_nil' ?_))
def evens {α : Type} : List α → List α
  | a :: _ :: l => a :: evens l
  | _ => []
theorem evens_take {α : Type} : ∀ (l : List α) (i : Nat) (x : α), i % 2 = 0 → i + 1 < l.length → l[i]? = some x → evens (l.take (i + 2)) = evens (l.take i) ++ [x]
  | [], i, x, _, h, _ => by simp at h
  | [a], i, x, _, h, _ => by simp at h
  | a :: b :: l, 0, x, _, h, hx => by simp at hx; simp [evens, hx]
  | a :: b :: l, 1, x, h0, h, hx => by omega
  | a :: b :: l, i + 2, x, h0, h, hx => by
    have := evens_take l i x (by omega) (by simp at h; omega) (by simpa using hx)
    rw [List.take_succ_cons, List.take_succ_cons, List.take_succ_cons, List.take_succ_cons]
    simp only [evens]
    rw [this]; rfl
theorem evens_all {α : Type} : ∀ (l : List α) (i : Nat), i % 2 = 0 → ¬ i + 1 < l.length → i ≤ l.length → evens (l.take i) = evens l
  | [], i, _, _, _ => by simp [evens]
  | [a], i, h0, h1, h2 => by
    have : i = 0 := by simp at h2; omega
    subst this; simp [evens]
  | a :: b :: l, 0, _, h1, _ => by simp at h1
  | a :: b :: l, 1, h0, _, _ => by omega
  | a :: b :: l, i + 2, h0, h1, h2 => by
    rw [List.take_succ_cons, List.take_succ_cons]
    simp only [evens]
    rw [evens_all l i (by omega) (by simp at h1; omega) (by simp at h2; omega)]
theorem evens_len {α : Type} : ∀ (l : List α), (evens l).length ≤ l.length
  | [] => by simp [evens]
  | [a] => by simp [evens]
  | a :: b :: l => by
    have := evens_len l
    simp only [evens, List.length_cons]; omega
theorem closed_ints {p : Nat → Bool} {h : H} (d : Nat) (l : List Int) : fzL p h (d + 2) ((l.map (AV.int .i64)).flatMap AV.cells) = some ((l.map (AV.int .i64)).flatMap AV.cells) :=
  fzL_of fun c hc => by
    simp only [List.mem_flatMap, List.mem_map] at hc
    obtain ⟨e, ⟨r, _, rfl⟩, hc⟩ := hc
    simp only [AV.cells, List.mem_singleton] at hc
    subst hc
    simp only [fz_int]
def keysR (n : Node) : List Int := if n.kind = 6 then evens n.kids else []
theorem keys_ok (n : Node) (hl : n.kids.length < 1099511627776) : Pur 83 [n.av] fun v => v = ints (keysR n) := by
  refine pq ok83 (by simp [AV.clL, cl_node]) rfl fun h => ?_
  unfold Node.av Node.cells keysR ints
  by_cases hk : n.kind = 6
  · repeat' (first | (simp (disch := omega) [go_sem, S83, *]) | (omega) | (with_reducible refine Br_dec (fun hp => ?_) (fun hp => ?_)) | (with_reducible refine Br_not ?_) | (with_reducible refine Br_bool (fun hp => ?_) (fun hp => ?_)) | (with_reducible refine bG_dec (fun hp => ?_) (fun hp => ?_)) | (with_reducible refine bG_bool' (fun hp => ?_) (fun hp => ?_)) | ((with_reducible refine Go_regD _ _ ?hn ?_); case hn => rfl) | ((with_reducible refine Go_regN _ _ ?hn ?_); case hn => rfl) | (with_reducible refine dE_some ?_ ?_) | (with_reducible refine dN_some ?_ ?_) | (with_reducible refine dN_some' ?_ ?_) | ((with_reducible refine Rd_dG ?hn _ _ _ _ _ ?_); case hn => rfl) | (with_reducible refine dG_dec (fun hp => ?_) (fun hp => ?_)) | (with_reducible refine dG_bool' (fun hp => ?_) (fun hp => ?_)) | (with_reducible refine Rd_nil' ?_))
    refine Go_loop (fun m e h1 => ∃ i : Nat, ∃ v : AV, m = n.kids.length + 1 - i ∧ i % 2 = 0 ∧ i ≤ n.kids.length ∧ e.get 4 = .int .i64 i ∧ e.get 1 = .ptr h.next 0 ∧ e.get 3 = v ∧ h.next < h1.next
      ∧ h1.get h.next = some (.cells [.int .i64 n.kind, .str n.text, .fsl false 1 (n.kids.map (AV.int .i64))] 68 (some 0)) ∧ Els (h.next + 1) h1 v 1 3 ((evens (n.kids.take i)).map (AV.int .i64))) (n := n.kids.length + 1) ?_ ?_
    · refine ⟨0, .nils, by omega, by omega, by omega, ?_, ?_, ?_, ?_, ?_, Els.nil _ _ _ _⟩ <;> simp (disch := omega) [go_sem, hk]
    · rintro m e h1 ⟨i, v, rfl, h0, hi, h4, h1', h3, hn, hg, hs⟩ Q hQ
      by_cases hlt : i + 1 < n.kids.length
      · have hel := evens_len (n.kids.take i)
        rw [List.length_take] at hel
        have hx : n.kids[i]? = some n.kids[i] := List.getElem?_eq_getElem (by omega)
        have hev := evens_take n.kids i _ h0 hlt hx
        have hgo : ∀ e' h' v', e'.get 4 = .int .i64 ((i : Int) + 2) → e'.get 1 = .ptr h.next 0 → e'.get 3 = v' → h.next < h'.next → h'.get h.next = h1.get h.next → Els (h.next + 1) h' v' 1 3 ((evens (n.kids.take i)).map (AV.int .i64) ++ [.int .i64 n.kids[i]]) → Q e' h' :=
          fun e' h' v' q1 q2 q3 q4 q5 q6 => hQ (n.kids.length + 1 - (i + 2)) e' h' (by omega) ⟨i + 2, v', rfl, by omega, by omega, q1, q2, q3, q4, by rw [q5, hg], by rw [hev]; simpa using q6⟩
        clear hQ
        repeat' (first | (simp (disch := omega) [go_sem, S83, *]) | (omega) | (with_reducible refine Br_dec (fun hp => ?_) (fun hp => ?_)) | (with_reducible refine Br_not ?_) | (with_reducible refine Br_bool (fun hp => ?_) (fun hp => ?_)) | (with_reducible refine bG_dec (fun hp => ?_) (fun hp => ?_)) | (with_reducible refine bG_bool' (fun hp => ?_) (fun hp => ?_)) | ((with_reducible refine Go_regD _ _ ?hn ?_); case hn => rfl) | ((with_reducible refine Go_regN _ _ ?hn ?_); case hn => rfl) | (with_reducible refine dE_some ?_ ?_) | (with_reducible refine dN_some ?_ ?_) | (with_reducible refine dN_some' ?_ ?_) | ((with_reducible refine Rd_dG ?hn _ _ _ _ _ ?_); case hn => rfl) | (with_reducible refine dG_dec (fun hp => ?_) (fun hp => ?_)) | (with_reducible refine dG_bool' (fun hp => ?_) (fun hp => ?_)) | (with_reducible refine Rd_nil' ?_))
        refine bE_app (x := .int .i64 n.kids[i]) (hs.same (by simp [go_sem]) fun j _ _ => by simp (disch := omega) [go_sem]) (by simp [go_sem]; omega) (okE_leaf rfl) rfl (by simp; omega) fun v' h' hn' ho' hs' => ?_
        have hh := ho' h.next (by omega)
        simp (disch := omega) [go_sem] at hh hn'
        clear ho'
        repeat' (first | (simp (disch := omega) [go_sem, S83, *]) | (omega) | (with_reducible refine Br_dec (fun hp => ?_) (fun hp => ?_)) | (with_reducible refine Br_not ?_) | (with_reducible refine Br_bool (fun hp => ?_) (fun hp => ?_)) | (with_reducible refine bG_dec (fun hp => ?_) (fun hp => ?_)) | (with_reducible refine bG_bool' (fun hp => ?_) (fun hp => ?_)) | ((with_reducible refine Go_regD _ _ ?hn ?_); case hn => rfl) | ((with_reducible refine Go_regN _ _ ?hn ?_); case hn => rfl) | (with_reducible refine dE_some ?_ ?_) | (with_reducible refine dN_some ?_ ?_) | (with_reducible refine dN_some' ?_ ?_) | ((with_reducible refine Rd_dG ?hn _ _ _ _ _ ?_); case hn => rfl) | (with_reducible refine dG_dec (fun hp => ?_) (fun hp => ?_)) | (with_reducible refine dG_bool' (fun hp => ?_) (fun hp => ?_)) | (with_reducible refine Rd_nil' ?_))
        exact hgo _ _ v' (by simp [go_sem]) (by simp [go_sem]) (by simp [go_sem]) (by omega) hh hs'
      · have hev := evens_all n.kids i h0 hlt hi
        rw [hev] at hs
        clear hQ
        repeat' (first | (simp (disch := omega) [go_sem, S83, *]) | (omega) | (with_reducible refine Br_dec (fun hp => ?_) (fun hp => ?_)) | (with_reducible refine Br_not ?_) | (with_reducible refine Br_bool (fun hp => ?_) (fun hp => ?_)) | (with_reducible refine bG_dec (fun hp => ?_) (fun hp => ?_)) | (with_reducible refine bG_bool' (fun hp => ?_) (fun hp => ?_)) | ((with_reducible refine Go_regD _ _ ?hn ?_); case hn => rfl) | ((with_reducible refine Go_regN _ _ ?hn ?_); case hn => rfl) | (with_reducible refine dE_some ?_ ?_) | (with_reducible refine dN_some ?_ ?_) | (with_reducible refine dN_some' ?_ ?_) | ((with_reducible refine Rd_dG ?hn _ _ _ _ _ ?_); case hn => rfl) | (with_reducible refine dG_dec (fun hp => ?_) (fun hp => ?_)) | (with_reducible refine dG_bool' (fun hp => ?_) (fun hp => ?_)) | (with_reducible refine Rd_nil' ?_))
        exact fin_one (hs.fz (fun _ _ => rfl) (closed_ints _ _)) rfl
  · repeat' (first | (simp (disch := omega) [go_sem, S83, *]) | (omega) | (with_reducible refine Br_dec (fun hp => ?_) (fun hp => ?_)) | (with_reducible refine Br_not ?_) | (with_reducible refine Br_bool (fun hp => ?_) (fun hp => ?_)) | (with_reducible refine bG_dec (fun hp => ?_) (fun hp => ?_)) | (with_reducible refine bG_bool' (fun hp => ?_) (fun hp => ?_)) | ((with_reducible refine Go_regD _ _ ?hn ?_); case hn => rfl) | ((with_reducible refine Go_regN _ _ ?hn ?_); case hn => rfl) | (with_reducible refine dE_some ?_ ?_) | (with_reducible refine dN_some ?_ ?_) | (with_reducible refine dN_some' ?_ ?_) | ((with_reducible refine Rd_dG ?hn _ _ _ _ _ ?_); case hn => rfl) | (with_reducible refine dG_dec (fun hp => ?_) (fun hp => ?_)) | (with_reducible refine dG_bool' (fun hp => ?_) (fun hp => ?_)) | (with_reducible refine Rd_nil' ?_))
    exact Le.nils _ _
/-! ### keys that are a number and a text -/
def ekey (x : Int × List Nat) : AV := .agg [.int .i64 x.1, .str x.2]
theorem eqKey_ekey (h : H) (a b : Int × List Nat) : eqKey h (.many [.int, .str]) (ekey a) (ekey b) = some (decide (a = b)) := by
  simp only [eqKey, ekey, eqKs_int, eqKs_str, eqKs_nil, andK_some]
  congr 1
  obtain ⟨a1, a2⟩ := a
  obtain ⟨b1, b2⟩ := b
  simp [Prod.mk.injEq, Bool.decide_and]
@[go_sem] theorem lk_key {ν : Type} (h : H) (zero : AV) (ok : Bool) (a : Int) (b : List Nat) (ev : ν → AV) (m : List ((Int × List Nat) × ν)) :
    lkO (.many [.int, .str]) zero ok h (.agg [.int .i64 a, .str b]) (some (.map (encM ekey ev m))) = some (match getA (a, b) m with
      | some v => if ok then .tup [ev v, .bool true] else ev v
      | none => if ok then .tup [zero, .bool false] else zero) := lkO_enc (ek := ekey) (eqKey_ekey h) (fun _ => rfl) zero ok (a, b) m
@[go_sem] theorem up_key {ν : Type} (h : H) (l : Nat) (a : Int) (b : List Nat) (ev : ν → AV) (v : ν) (m : List ((Int × List Nat) × ν)) (w : AV) (hw : w = ev v) :
    upO (.many [.int, .str]) l (.agg [.int .i64 a, .str b]) w h (some (.map (encM ekey ev m))) = some (.any, h.set l (.map (encM ekey ev (putA (a, b) v m)))) := by
  rw [hw]; exact upO_enc (ek := ekey) (eqKey_ekey h) (fun _ => rfl) l (a, b) v m
theorem up_key_bool (h : H) (l : Nat) (a : Int) (b : List Nat) (v : Bool) (m : List ((Int × List Nat) × Bool)) :
    upO (.many [.int, .str]) l (.agg [.int .i64 a, .str b]) (.bool v) h (some (.map (encM ekey AV.bool m))) = some (.any, h.set l (.map (encM ekey AV.bool (putA (a, b) v m)))) := up_key h l a b AV.bool v m _ rfl
attribute [go_sem] up_key_bool
def wasA (x : Int × List Nat) (m : List ((Int × List Nat) × Bool)) : Bool := (getA x m).getD false
theorem add_ok (M : Nat) (x : Int × List Nat) (m : List ((Int × List Nat) × Bool)) (h : H) (hM : M < h.next) (hg : h.get M = some (.map (encM ekey AV.bool m))) :
    Spc 140 [.map M, .agg [.int .i64 x.1, .str x.2]] h fun v h' => v = .bool (!wasA x m) ∧ h'.get M = some (.map (encM ekey AV.bool (putA x true m))) ∧ h.next ≤ h'.next ∧ ∀ j, j < h.next → j ≠ M → h'.get j = h.get j := by
  refine sg ok140 rfl ?_
  obtain ⟨a, b⟩ := x
  unfold wasA
  cases hx : getA (a, b) m with
  | none =>
    repeat' (first | (simp (disch := omega) [go_sem, S140, *]) | (omega) | (with_reducible refine Br_dec (fun hp => ?_) (fun hp => ?_)) | (with_reducible refine Br_not ?_) | (with_reducible refine Br_bool (fun hp => ?_) (fun hp => ?_)) | (with_reducible refine bG_dec (fun hp => ?_) (fun hp => ?_)) | (with_reducible refine bG_bool' (fun hp => ?_) (fun hp => ?_)) | ((with_reducible refine Go_regD _ _ ?hn ?_); case hn => rfl) | ((with_reducible refine Go_regN _ _ ?hn ?_); case hn => rfl) | (with_reducible refine dE_some ?_ ?_) | (with_reducible refine dN_some ?_ ?_) | (with_reducible refine dN_some' ?_ ?_) | ((with_reducible refine Rd_dG ?hn _ _ _ _ _ ?_); case hn => rfl) | (with_reducible refine dG_dec (fun hp => ?_) (fun hp => ?_)) | (with_reducible refine dG_bool' (fun hp => ?_) (fun hp => ?_)) | (with_reducible refine Rd_nil' ?_))
    intro j h1 h2
    simp (disch := omega) [go_sem]
  | some c =>
    repeat' (first | (simp (disch := omega) [go_sem, S140, *]) | (omega) | (with_reducible refine Br_dec (fun hp => ?_) (fun hp => ?_)) | (with_reducible refine Br_not ?_) | (with_reducible refine Br_bool (fun hp => ?_) (fun hp => ?_)) | (with_reducible refine bG_dec (fun hp => ?_) (fun hp => ?_)) | (with_reducible refine bG_bool' (fun hp => ?_) (fun hp => ?_)) | ((with_reducible refine Go_regD _ _ ?hn ?_); case hn => rfl) | ((with_reducible refine Go_regN _ _ ?hn ?_); case hn => rfl) | (with_reducible refine dE_some ?_ ?_) | (with_reducible refine dN_some ?_ ?_) | (with_reducible refine dN_some' ?_ ?_) | ((with_reducible refine Rd_dG ?hn _ _ _ _ _ ?_); case hn => rfl) | (with_reducible refine dG_dec (fun hp => ?_) (fun hp => ?_)) | (with_reducible refine dG_bool' (fun hp => ?_) (fun hp => ?_)) | (with_reducible refine Rd_nil' ?_))
    intro j h1 h2
    simp (disch := omega) [go_sem]
/-! ### looking through -/
theorem indexInts_ok (fl : Bool) (l : List Int) (p : Int → Bool) (f : FuncId) (first cap : List AV) (h : H) (hl : l.length < 1099511627776)
    (hc : ∀ x ∈ l, Spc f (first ++ .int .i64 x :: cap) h fun v h' => v = .bool (p x) ∧ h' = h) :
    Spc 141 [.fsl fl 1 (l.map (AV.int .i64)), .fn f first cap] h fun v h' => v = .int .i64 (idxF p l) ∧ h' = h := by
  refine sg ok141 rfl ?_
  repeat' (first | (simp (disch := omega) [go_sem, S141, *]) | (omega) | (with_reducible refine Br_dec (fun hp => ?_) (fun hp => ?_)) | (with_reducible refine Br_not ?_) | (with_reducible refine Br_bool (fun hp => ?_) (fun hp => ?_)) | (with_reducible refine bG_dec (fun hp => ?_) (fun hp => ?_)) | (with_reducible refine bG_bool' (fun hp => ?_) (fun hp => ?_)) | ((with_reducible refine Go_regD _ _ ?hn ?_); case hn => rfl) | ((with_reducible refine Go_regN _ _ ?hn ?_); case hn => rfl) | (with_reducible refine dE_some ?_ ?_) | (with_reducible refine dN_some ?_ ?_) | (with_reducible refine dN_some' ?_ ?_) | ((with_reducible refine Rd_dG ?hn _ _ _ _ _ ?_); case hn => rfl) | (with_reducible refine dG_dec (fun hp => ?_) (fun hp => ?_)) | (with_reducible refine dG_bool' (fun hp => ?_) (fun hp => ?_)) | (with_reducible refine Rd_nil' ?_))
  refine Go_loop (fun m e h1 => h1 = h ∧ ∃ i : Nat, m = l.length - i ∧ i ≤ l.length ∧ e.get 8 = .int .i64 i ∧ e.get 0 = .fsl fl 1 (l.map (AV.int .i64)) ∧ e.get 1 = .fn f first cap ∧ e.get 7 = .int .i64 l.length ∧ ∀ (j : Nat) y, j < i → l[j]? = some y → p y = false) (n := l.length) ?_ ?_
  · refine ⟨rfl, 0, by omega, by omega, ?_, ?_, ?_, ?_, fun j y hj => by omega⟩ <;> simp (disch := omega) [go_sem]
  · rintro m e h1 ⟨rfl, i, rfl, hi, h8, h0, hf, h7, hno⟩ Q hQ
    by_cases hlt : i < l.length
    · have hx : l[i]? = some l[i] := List.getElem?_eq_getElem hlt
      have hcx := hc l[i] (List.getElem_mem hlt)
      have hfound := fun hp => idxF_found (p := p) hno hx hp
      have hgo : ∀ e', p l[i] = false → e'.get 8 = .int .i64 ((i : Int) + 1) → e'.get 0 = .fsl fl 1 (l.map (AV.int .i64)) → e'.get 1 = .fn f first cap → e'.get 7 = .int .i64 l.length → Q e' h1 :=
        fun e' hp q1 q2 q3 q4 => hQ (l.length - (i + 1)) e' h1 (by omega) ⟨rfl, i + 1, rfl, by omega, q1, q2, q3, q4, fun j y hj hy => by
          by_cases hji : j = i
          · subst hji; rw [hx] at hy; injection hy with hy; rw [← hy]; exact hp
          · exact hno j y (by omega) hy⟩
      clear hQ hno
      repeat' (first | (simp (disch := omega) [go_sem, S141, *]) | (omega) | (with_reducible refine Br_dec (fun hp => ?_) (fun hp => ?_)) | (with_reducible refine Br_not ?_) | (with_reducible refine Br_bool (fun hp => ?_) (fun hp => ?_)) | (with_reducible refine bG_dec (fun hp => ?_) (fun hp => ?_)) | (with_reducible refine bG_bool' (fun hp => ?_) (fun hp => ?_)) | ((with_reducible refine Go_regD _ _ ?hn ?_); case hn => rfl) | ((with_reducible refine Go_regN _ _ ?hn ?_); case hn => rfl) | (with_reducible refine dE_some ?_ ?_) | (with_reducible refine dN_some ?_ ?_) | (with_reducible refine dN_some' ?_ ?_) | ((with_reducible refine Rd_dG ?hn _ _ _ _ _ ?_); case hn => rfl) | (with_reducible refine dG_dec (fun hp => ?_) (fun hp => ?_)) | (with_reducible refine dG_bool' (fun hp => ?_) (fun hp => ?_)) | (with_reducible refine Rd_nil' ?_))
      refine bC_spec hcx fun v h2 hv => ?_
      obtain ⟨rfl, rfl⟩ := hv
      cases hp : p l[i] with
      | true =>
        have hfo := hfound hp
        clear hfound hgo
        repeat' (first | (simp (disch := omega) [go_sem, S141, *]) | (omega) | (with_reducible refine Br_dec (fun hp => ?_) (fun hp => ?_)) | (with_reducible refine Br_not ?_) | (with_reducible refine Br_bool (fun hp => ?_) (fun hp => ?_)) | (with_reducible refine bG_dec (fun hp => ?_) (fun hp => ?_)) | (with_reducible refine bG_bool' (fun hp => ?_) (fun hp => ?_)) | ((with_reducible refine Go_regD _ _ ?hn ?_); case hn => rfl) | ((with_reducible refine Go_regN _ _ ?hn ?_); case hn => rfl) | (with_reducible refine dE_some ?_ ?_) | (with_reducible refine dN_some ?_ ?_) | (with_reducible refine dN_some' ?_ ?_) | ((with_reducible refine Rd_dG ?hn _ _ _ _ _ ?_); case hn => rfl) | (with_reducible refine dG_dec (fun hp => ?_) (fun hp => ?_)) | (with_reducible refine dG_bool' (fun hp => ?_) (fun hp => ?_)) | (with_reducible refine Rd_nil' ?_))
      | false =>
        clear hfound
        repeat' (first | (simp (disch := omega) [go_sem, S141, *]) | (omega) | (with_reducible refine Br_dec (fun hp => ?_) (fun hp => ?_)) | (with_reducible refine Br_not ?_) | (with_reducible refine Br_bool (fun hp => ?_) (fun hp => ?_)) | (with_reducible refine bG_dec (fun hp => ?_) (fun hp => ?_)) | (with_reducible refine bG_bool' (fun hp => ?_) (fun hp => ?_)) | ((with_reducible refine Go_regD _ _ ?hn ?_); case hn => rfl) | ((with_reducible refine Go_regN _ _ ?hn ?_); case hn => rfl) | (with_reducible refine dE_some ?_ ?_) | (with_reducible refine dN_some ?_ ?_) | (with_reducible refine dN_some' ?_ ?_) | ((with_reducible refine Rd_dG ?hn _ _ _ _ _ ?_); case hn => rfl) | (with_reducible refine dG_dec (fun hp => ?_) (fun hp => ?_)) | (with_reducible refine dG_bool' (fun hp => ?_) (fun hp => ?_)) | (with_reducible refine Rd_nil' ?_))
        exact hgo _ hp (by simp [go_sem]) (by simp [go_sem]) (by simp [go_sem]) (by simp [go_sem])
    · have hnone : idxF p l = -1 := idxF_none fun j y hy => by
        refine hno j y ?_ hy
        have := (List.getElem?_eq_some_iff.1 hy).1
        omega
      clear hQ hno
      repeat' (first | (simp (disch := omega) [go_sem, S141, *]) | (omega) | (with_reducible refine Br_dec (fun hp => ?_) (fun hp => ?_)) | (with_reducible refine Br_not ?_) | (with_reducible refine Br_bool (fun hp => ?_) (fun hp => ?_)) | (with_reducible refine bG_dec (fun hp => ?_) (fun hp => ?_)) | (with_reducible refine bG_bool' (fun hp => ?_) (fun hp => ?_)) | ((with_reducible refine Go_regD _ _ ?hn ?_); case hn => rfl) | ((with_reducible refine Go_regN _ _ ?hn ?_); case hn => rfl) | (with_reducible refine dE_some ?_ ?_) | (with_reducible refine dN_some ?_ ?_) | (with_reducible refine dN_some' ?_ ?_) | ((with_reducible refine Rd_dG ?hn _ _ _ _ _ ?_); case hn => rfl) | (with_reducible refine dG_dec (fun hp => ?_) (fun hp => ?_)) | (with_reducible refine dG_bool' (fun hp => ?_) (fun hp => ?_)) | (with_reducible refine Rd_nil' ?_))
theorem containsInts_ok (fl : Bool) (l : List Int) (p : Int → Bool) (f : FuncId) (first cap : List AV) (h : H) (hl : l.length < 1099511627776)
    (hc : ∀ x ∈ l, Spc f (first ++ .int .i64 x :: cap) h fun v h' => v = .bool (p x) ∧ h' = h) :
    Spc 82 [.fsl fl 1 (l.map (AV.int .i64)), .fn f first cap] h fun v h' => v = .bool (l.any p) ∧ h' = h := by
  refine sg ok82 rfl ?_
  repeat' (first | (simp (disch := omega) [go_sem, S82, *]) | (omega) | (with_reducible refine Br_dec (fun hp => ?_) (fun hp => ?_)) | (with_reducible refine Br_not ?_) | (with_reducible refine Br_bool (fun hp => ?_) (fun hp => ?_)) | (with_reducible refine bG_dec (fun hp => ?_) (fun hp => ?_)) | (with_reducible refine bG_bool' (fun hp => ?_) (fun hp => ?_)) | ((with_reducible refine Go_regD _ _ ?hn ?_); case hn => rfl) | ((with_reducible refine Go_regN _ _ ?hn ?_); case hn => rfl) | (with_reducible refine dE_some ?_ ?_) | (with_reducible refine dN_some ?_ ?_) | (with_reducible refine dN_some' ?_ ?_) | ((with_reducible refine Rd_dG ?hn _ _ _ _ _ ?_); case hn => rfl) | (with_reducible refine dG_dec (fun hp => ?_) (fun hp => ?_)) | (with_reducible refine dG_bool' (fun hp => ?_) (fun hp => ?_)) | (with_reducible refine Rd_nil' ?_))
  refine bC_spec (indexInts_ok fl l p f first cap h hl hc) fun v h2 hv => ?_
  obtain ⟨rfl, rfl⟩ := hv
  have := idxF_any p l
  repeat' (first | (simp (disch := omega) [go_sem, S82, *]) | (omega) | (with_reducible refine Br_dec (fun hp => ?_) (fun hp => ?_)) | (with_reducible refine Br_not ?_) | (with_reducible refine Br_bool (fun hp => ?_) (fun hp => ?_)) | (with_reducible refine bG_dec (fun hp => ?_) (fun hp => ?_)) | (with_reducible refine bG_bool' (fun hp => ?_) (fun hp => ?_)) | ((with_reducible refine Go_regD _ _ ?hn ?_); case hn => rfl) | ((with_reducible refine Go_regN _ _ ?hn ?_); case hn => rfl) | (with_reducible refine dE_some ?_ ?_) | (with_reducible refine dN_some ?_ ?_) | (with_reducible refine dN_some' ?_ ?_) | ((with_reducible refine Rd_dG ?hn _ _ _ _ _ ?_); case hn => rfl) | (with_reducible refine dG_dec (fun hp => ?_) (fun hp => ?_)) | (with_reducible refine dG_bool' (fun hp => ?_) (fun hp => ?_)) | (with_reducible refine Rd_nil' ?_))
def outR (g : Graph) (k : Int) : Bool := decide (k < 0) || decide ((g.nodes.length : Int) ≤ k)
theorem out_ok (g : Graph) (k : Int) (L : Nat) (t : TypeId) (h : H) (hg : h.get L = some (.cells g.cells t (some 0))) :
    Spc 139 [.int .i64 k, .ptr L 0] h fun v h' => v = .bool (outR g k) ∧ h' = h := by
  refine sg ok139 rfl ?_
  unfold Graph.cells at hg
  unfold outR
  by_cases h1 : k < 0
  · repeat' (first | (simp (disch := omega) [go_sem, S139, *]) | (omega) | (with_reducible refine Br_dec (fun hp => ?_) (fun hp => ?_)) | (with_reducible refine Br_not ?_) | (with_reducible refine Br_bool (fun hp => ?_) (fun hp => ?_)) | (with_reducible refine bG_dec (fun hp => ?_) (fun hp => ?_)) | (with_reducible refine bG_bool' (fun hp => ?_) (fun hp => ?_)) | ((with_reducible refine Go_regD _ _ ?hn ?_); case hn => rfl) | ((with_reducible refine Go_regN _ _ ?hn ?_); case hn => rfl) | (with_reducible refine dE_some ?_ ?_) | (with_reducible refine dN_some ?_ ?_) | (with_reducible refine dN_some' ?_ ?_) | ((with_reducible refine Rd_dG ?hn _ _ _ _ _ ?_); case hn => rfl) | (with_reducible refine dG_dec (fun hp => ?_) (fun hp => ?_)) | (with_reducible refine dG_bool' (fun hp => ?_) (fun hp => ?_)) | (with_reducible refine Rd_nil' ?_))
  · repeat' (first | (simp (disch := omega) [go_sem, S139, *]) | (omega) | (with_reducible refine Br_dec (fun hp => ?_) (fun hp => ?_)) | (with_reducible refine Br_not ?_) | (with_reducible refine Br_bool (fun hp => ?_) (fun hp => ?_)) | (with_reducible refine bG_dec (fun hp => ?_) (fun hp => ?_)) | (with_reducible refine bG_bool' (fun hp => ?_) (fun hp => ?_)) | ((with_reducible refine Go_regD _ _ ?hn ?_); case hn => rfl) | ((with_reducible refine Go_regN _ _ ?hn ?_); case hn => rfl) | (with_reducible refine dE_some ?_ ?_) | (with_reducible refine dN_some ?_ ?_) | (with_reducible refine dN_some' ?_ ?_) | ((with_reducible refine Rd_dG ?hn _ _ _ _ _ ?_); case hn => rfl) | (with_reducible refine dG_dec (fun hp => ?_) (fun hp => ?_)) | (with_reducible refine dG_bool' (fun hp => ?_) (fun hp => ?_)) | (with_reducible refine Rd_nil' ?_))
/-! ### nodes -/
def big : Nat := 1073741824
structure Small (g : Graph) : Prop where
  nodes : g.nodes.length < 1073741824
  each : ∀ n ∈ g.nodes, n.text.length < 1073741824 ∧ n.kids.length < 1073741824
def keyAt (g : Graph) (k : Int) : Int × List Nat := match g.nodes[k.toNat]? with
  | some n => (n.kind, n.text)
  | none => (0, [])
def keysOkR (g : Graph) : List Int → List ((Int × List Nat) × Bool) → Bool
  | [], _ => true
  | k :: ks, m => if isScalarR (keyAt g k).1 && !wasA (keyAt g k) m then keysOkR g ks (putA (keyAt g k) true m) else false
def isNodeR (g : Graph) (n : Node) : Bool :=
  if n.kind < 1 ∨ 6 < n.kind ∨ isTextR n.kind n.text = false then false
  else if isScalarR n.kind = true ∧ 0 < (n.kids.length : Int) ∨ n.kind = 6 ∧ (n.kids.length : Int).tmod 2 ≠ 0 then false
  else if n.kids.any (outR g) then false
  else keysOkR g (keysR n) []
theorem keysR_sub {n : Node} {k : Int} (h : k ∈ keysR n) : k ∈ n.kids := by
  unfold keysR at h
  split at h
  · have : ∀ l : List Int, k ∈ evens l → k ∈ l := by
      intro l
      induction l using evens.induct with
      | case1 a b l ih =>
        intro hk
        simp only [evens] at hk
        rcases List.mem_cons.1 hk with e | e
        · subst e; exact List.mem_cons_self
        · exact List.mem_cons_of_mem _ (List.mem_cons_of_mem _ (ih e))
      | case2 l hl => intro hk; rw [evens] at hk; cases hk; exact hl
    exact this _ h
  · cases h
theorem keys_ok6 (n : Node) (hk : n.kind = 6) (hl : n.kids.length < 1099511627776) : Pur 83 [.agg [.int .i64 6, .str n.text, ints n.kids]] fun v => v = ints (keysR n) := by
  have := keys_ok n hl
  unfold Node.av Node.cells at this
  rw [hk] at this
  exact this
theorem isNode_ok (g : Graph) (n : Node) (hg : Small g) (hn : n.text.length < 1073741824 ∧ n.kids.length < 1073741824) : Puv 81 [g.av, n.av] (.bool (isNodeR g n)) := by
  refine pv ok81 (by simp [AV.clL, cl_node, cl_graph]) rfl fun h => ?_
  have hgn := hg.nodes
  have hn1 := hn.1
  have hn2 := hn.2
  unfold isNodeR
  by_cases h1 : n.kind < 1
  · repeat' (first | (simp (disch := omega) [go_sem, S81, Graph.av, Graph.cells, Node.av, Node.cells, ints, *]) | (omega) | (with_reducible refine Br_dec (fun hp => ?_) (fun hp => ?_)) | (with_reducible refine Br_not ?_) | (with_reducible refine Br_bool (fun hp => ?_) (fun hp => ?_)) | (with_reducible refine bG_dec (fun hp => ?_) (fun hp => ?_)) | (with_reducible refine bG_bool' (fun hp => ?_) (fun hp => ?_)) | ((with_reducible refine Go_regD _ _ ?hn ?_); case hn => rfl) | ((with_reducible refine Go_regN _ _ ?hn ?_); case hn => rfl) | (with_reducible refine dE_some ?_ ?_) | (with_reducible refine dN_some ?_ ?_) | (with_reducible refine dN_some' ?_ ?_) | ((with_reducible refine Rd_dG ?hn _ _ _ _ _ ?_); case hn => rfl) | (with_reducible refine dG_dec (fun hp => ?_) (fun hp => ?_)) | (with_reducible refine dG_bool' (fun hp => ?_) (fun hp => ?_)) | (with_reducible refine Rd_nil' ?_))
  by_cases h2 : 6 < n.kind
  · repeat' (first | (simp (disch := omega) [go_sem, S81, Graph.av, Graph.cells, Node.av, Node.cells, ints, *]) | (omega) | (with_reducible refine Br_dec (fun hp => ?_) (fun hp => ?_)) | (with_reducible refine Br_not ?_) | (with_reducible refine Br_bool (fun hp => ?_) (fun hp => ?_)) | (with_reducible refine bG_dec (fun hp => ?_) (fun hp => ?_)) | (with_reducible refine bG_bool' (fun hp => ?_) (fun hp => ?_)) | ((with_reducible refine Go_regD _ _ ?hn ?_); case hn => rfl) | ((with_reducible refine Go_regN _ _ ?hn ?_); case hn => rfl) | (with_reducible refine dE_some ?_ ?_) | (with_reducible refine dN_some ?_ ?_) | (with_reducible refine dN_some' ?_ ?_) | ((with_reducible refine Rd_dG ?hn _ _ _ _ _ ?_); case hn => rfl) | (with_reducible refine dG_dec (fun hp => ?_) (fun hp => ?_)) | (with_reducible refine dG_bool' (fun hp => ?_) (fun hp => ?_)) | (with_reducible refine Rd_nil' ?_))
  cases h3 : isTextR n.kind n.text with
  | false =>
    repeat' (first | (simp (disch := omega) [go_sem, S81, Graph.av, Graph.cells, Node.av, Node.cells, ints, *]) | (omega) | (with_reducible refine Br_dec (fun hp => ?_) (fun hp => ?_)) | (with_reducible refine Br_not ?_) | (with_reducible refine Br_bool (fun hp => ?_) (fun hp => ?_)) | (with_reducible refine bG_dec (fun hp => ?_) (fun hp => ?_)) | (with_reducible refine bG_bool' (fun hp => ?_) (fun hp => ?_)) | (refine bC_v (isText_ok _ _ (by omega)) ?_) | ((with_reducible refine Go_regD _ _ ?hn ?_); case hn => rfl) | ((with_reducible refine Go_regN _ _ ?hn ?_); case hn => rfl) | (with_reducible refine dE_some ?_ ?_) | (with_reducible refine dN_some ?_ ?_) | (with_reducible refine dN_some' ?_ ?_) | ((with_reducible refine Rd_dG ?hn _ _ _ _ _ ?_); case hn => rfl) | (with_reducible refine dG_dec (fun hp => ?_) (fun hp => ?_)) | (with_reducible refine dG_bool' (fun hp => ?_) (fun hp => ?_)) | (with_reducible refine Rd_nil' ?_))
  | true =>
  by_cases h4 : isScalarR n.kind = true ∧ 0 < (n.kids.length : Int)
  · obtain ⟨h4, h4'⟩ := h4
    repeat' (first | (simp (disch := omega) [go_sem, S81, Graph.av, Graph.cells, Node.av, Node.cells, ints, *]) | (omega) | (with_reducible refine Br_dec (fun hp => ?_) (fun hp => ?_)) | (with_reducible refine Br_not ?_) | (with_reducible refine Br_bool (fun hp => ?_) (fun hp => ?_)) | (with_reducible refine bG_dec (fun hp => ?_) (fun hp => ?_)) | (with_reducible refine bG_bool' (fun hp => ?_) (fun hp => ?_)) | (refine bC_v (isText_ok _ _ (by omega)) ?_) | (refine bC_v (isScalar_ok _) ?_) | ((with_reducible refine Go_regD _ _ ?hn ?_); case hn => rfl) | ((with_reducible refine Go_regN _ _ ?hn ?_); case hn => rfl) | (with_reducible refine dE_some ?_ ?_) | (with_reducible refine dN_some ?_ ?_) | (with_reducible refine dN_some' ?_ ?_) | ((with_reducible refine Rd_dG ?hn _ _ _ _ _ ?_); case hn => rfl) | (with_reducible refine dG_dec (fun hp => ?_) (fun hp => ?_)) | (with_reducible refine dG_bool' (fun hp => ?_) (fun hp => ?_)) | (with_reducible refine Rd_nil' ?_))
  by_cases h5 : n.kind = 6 ∧ (n.kids.length : Int).tmod 2 ≠ 0
  · obtain ⟨h5, h5'⟩ := h5
    have hs6 : isScalarR 6 = false := rfl
    repeat' (first | (simp (disch := omega) [go_sem, S81, Graph.av, Graph.cells, Node.av, Node.cells, ints, *]) | (omega) | (with_reducible refine Br_dec (fun hp => ?_) (fun hp => ?_)) | (with_reducible refine Br_not ?_) | (with_reducible refine Br_bool (fun hp => ?_) (fun hp => ?_)) | (with_reducible refine bG_dec (fun hp => ?_) (fun hp => ?_)) | (with_reducible refine bG_bool' (fun hp => ?_) (fun hp => ?_)) | (refine bC_v (isText_ok _ _ (by omega)) ?_) | (refine bC_v (isScalar_ok _) ?_) | ((with_reducible refine Go_regD _ _ ?hn ?_); case hn => rfl) | ((with_reducible refine Go_regN _ _ ?hn ?_); case hn => rfl) | (with_reducible refine dE_some ?_ ?_) | (with_reducible refine dN_some ?_ ?_) | (with_reducible refine dN_some' ?_ ?_) | ((with_reducible refine Rd_dG ?hn _ _ _ _ _ ?_); case hn => rfl) | (with_reducible refine dG_dec (fun hp => ?_) (fun hp => ?_)) | (with_reducible refine dG_bool' (fun hp => ?_) (fun hp => ?_)) | (with_reducible refine Rd_nil' ?_))
  have h45 : ¬ (isScalarR n.kind = true ∧ 0 < (n.kids.length : Int) ∨ n.kind = 6 ∧ (n.kids.length : Int).tmod 2 ≠ 0) := fun e => e.elim h4 h5
  simp only [h1, h2, h3, h45, Bool.true_eq_false, or_self, if_false]
  have hout : ∀ (f : H) , f.get h.next = some (.cells g.cells 24 (some 0)) → Spc 82 [ints n.kids, .fn 139 [] [.ptr h.next 0]] f fun v h' => v = .bool (n.kids.any (outR g)) ∧ h' = f := fun f hf =>
    containsInts_ok false n.kids (outR g) _ [] [.ptr h.next 0] f (by omega) fun x _ => out_ok g x h.next _ f hf
  unfold Graph.cells ints at hout
  cases h6 : n.kids.any (outR g) with
  | true =>
    rw [h6] at hout
    cases hsc : isScalarR n.kind with
    | true =>
      repeat' (first | (simp (disch := omega) [go_sem, S81, Graph.av, Graph.cells, Node.av, Node.cells, ints, *]) | (omega) | (with_reducible refine Br_dec (fun hp => ?_) (fun hp => ?_)) | (with_reducible refine Br_not ?_) | (with_reducible refine Br_bool (fun hp => ?_) (fun hp => ?_)) | (with_reducible refine bG_dec (fun hp => ?_) (fun hp => ?_)) | (with_reducible refine bG_bool' (fun hp => ?_) (fun hp => ?_)) | (refine bC_v (isText_ok _ _ (by omega)) ?_) | (refine bC_v (isScalar_ok _) ?_) | (refine bC_spec (hout _ (by simp (disch := omega) [go_sem])) fun v h2 hv => ?_; obtain ⟨rfl, rfl⟩ := hv) | ((with_reducible refine Go_regD _ _ ?hn ?_); case hn => rfl) | ((with_reducible refine Go_regN _ _ ?hn ?_); case hn => rfl) | (with_reducible refine dE_some ?_ ?_) | (with_reducible refine dN_some ?_ ?_) | (with_reducible refine dN_some' ?_ ?_) | ((with_reducible refine Rd_dG ?hn _ _ _ _ _ ?_); case hn => rfl) | (with_reducible refine dG_dec (fun hp => ?_) (fun hp => ?_)) | (with_reducible refine dG_bool' (fun hp => ?_) (fun hp => ?_)) | (with_reducible refine Rd_nil' ?_))
    | false =>
      repeat' (first | (simp (disch := omega) [go_sem, S81, Graph.av, Graph.cells, Node.av, Node.cells, ints, *]) | (omega) | (with_reducible refine Br_dec (fun hp => ?_) (fun hp => ?_)) | (with_reducible refine Br_not ?_) | (with_reducible refine Br_bool (fun hp => ?_) (fun hp => ?_)) | (with_reducible refine bG_dec (fun hp => ?_) (fun hp => ?_)) | (with_reducible refine bG_bool' (fun hp => ?_) (fun hp => ?_)) | (refine bC_v (isText_ok _ _ (by omega)) ?_) | (refine bC_v (isScalar_ok _) ?_) | (refine bC_spec (hout _ (by simp (disch := omega) [go_sem])) fun v h2 hv => ?_; obtain ⟨rfl, rfl⟩ := hv) | ((with_reducible refine Go_regD _ _ ?hn ?_); case hn => rfl) | ((with_reducible refine Go_regN _ _ ?hn ?_); case hn => rfl) | (with_reducible refine dE_some ?_ ?_) | (with_reducible refine dN_some ?_ ?_) | (with_reducible refine dN_some' ?_ ?_) | ((with_reducible refine Rd_dG ?hn _ _ _ _ _ ?_); case hn => rfl) | (with_reducible refine dG_dec (fun hp => ?_) (fun hp => ?_)) | (with_reducible refine dG_bool' (fun hp => ?_) (fun hp => ?_)) | (with_reducible refine Rd_nil' ?_))
  | false =>
    rw [h6] at hout
    have hin : ∀ k ∈ keysR n, 0 ≤ k ∧ ∃ x, g.nodes[k.toNat]? = some x ∧ keyAt g k = (x.kind, x.text) := fun k hk => by
      have h7 := List.any_eq_false.1 h6 k (keysR_sub hk)
      simp only [outR, Bool.or_eq_true, decide_eq_true_eq, not_or] at h7
      have h8 : k.toNat < g.nodes.length := by omega
      exact ⟨by omega, g.nodes[k.toNat], List.getElem?_eq_getElem h8, by simp [keyAt, h8]⟩
    have hlen : (keysR n).length ≤ n.kids.length := by
      unfold keysR
      split
      · exact evens_len _
      · simp
    have start : (isScalarR n.kind = true ∧ n.kids.length = 0) ∨ isScalarR n.kind = false := by
      cases hsc : isScalarR n.kind with
      | true => exact .inl ⟨rfl, Decidable.byContradiction fun e => h4 ⟨hsc, by omega⟩⟩
      | false => exact .inr rfl
    have h5' : n.kind = 6 → (n.kids.length : Int).tmod 2 = 0 := fun e => Decidable.byContradiction fun e' => h5 ⟨e, e'⟩
    clear h45 h4 h5
    have loop : ∀ (e : Env) (h1 : H) (Q : Env → H → Prop) (k : List Fr), True := fun _ _ _ _ => trivial
    rcases start with ⟨hsc, hk0⟩ | hsc
    all_goals
      repeat' (first | (simp (disch := omega) [go_sem, S81, Graph.av, Graph.cells, Node.av, Node.cells, ints, *]) | (omega) | (with_reducible refine Br_dec (fun hp => ?_) (fun hp => ?_)) | (with_reducible refine Br_not ?_) | (with_reducible refine Br_bool (fun hp => ?_) (fun hp => ?_)) | (with_reducible refine bG_dec (fun hp => ?_) (fun hp => ?_)) | (with_reducible refine bG_bool' (fun hp => ?_) (fun hp => ?_)) | (refine bC_v (isText_ok _ _ (by omega)) ?_) | (refine bC_v (isScalar_ok _) ?_) | (refine bC_spec (hout _ (by simp (disch := omega) [go_sem])) fun v h2 hv => ?_; obtain ⟨rfl, rfl⟩ := hv) | (refine bC_pure (keys_ok n (by omega)) fun v hv => ?_; subst hv) | (refine bC_pure (keys_ok6 n (by assumption) (by omega)) fun v hv => ?_; subst hv) | ((with_reducible refine Go_regD _ _ ?hn ?_); case hn => rfl) | ((with_reducible refine Go_regN _ _ ?hn ?_); case hn => rfl) | (with_reducible refine dE_some ?_ ?_) | (with_reducible refine dN_some ?_ ?_) | (with_reducible refine dN_some' ?_ ?_) | ((with_reducible refine Rd_dG ?hn _ _ _ _ _ ?_); case hn => rfl) | (with_reducible refine dG_dec (fun hp => ?_) (fun hp => ?_)) | (with_reducible refine dG_bool' (fun hp => ?_) (fun hp => ?_)) | (with_reducible refine Rd_nil' ?_))
    all_goals
      refine Go_loop (fun m e h1 => ∃ i : Nat, ∃ mm : List ((Int × List Nat) × Bool), m = (keysR n).length - i ∧ i ≤ (keysR n).length ∧ e.get 54 = .int .i64 i ∧ e.get 5 = .map (h.next + 2) ∧ e.get 2 = .ptr h.next 0 ∧ e.get 52 = ints (keysR n) ∧ e.get 53 = .int .i64 (keysR n).length
        ∧ h.next + 2 < h1.next ∧ h1.get h.next = some (.cells g.cells 24 (some 0)) ∧ h1.get (h.next + 2) = some (.map (encM ekey AV.bool mm)) ∧ keysOkR g (keysR n) [] = keysOkR g ((keysR n).drop i) mm) (n := (keysR n).length) ?_ ?_
      · refine ⟨0, [], by omega, by omega, ?_, ?_, ?_, ?_, ?_, ?_, ?_, ?_, rfl⟩ <;> simp (disch := omega) [go_sem, ints, Graph.cells, encM]
      · rintro m e h1 ⟨i, mm, rfl, hi, q54, q5, q2, q52, q53, hn1', hgg, hgm, hko⟩ Q hQ
        by_cases hlt : i < (keysR n).length
        · have hx : (keysR n)[i]? = some (keysR n)[i] := List.getElem?_eq_getElem hlt
          obtain ⟨hk1, x, hk2, hk3⟩ := hin _ (List.getElem_mem hlt)
          have hdrop : (keysR n).drop i = (keysR n)[i] :: (keysR n).drop (i + 1) := List.drop_eq_getElem_cons hlt
          rw [hdrop, keysOkR, hk3] at hko
          have hgo : ∀ e' h', isScalarR x.kind = true → wasA (x.kind, x.text) mm = false → e'.get 54 = .int .i64 ((i : Int) + 1) → e'.get 5 = .map (h.next + 2) → e'.get 2 = .ptr h.next 0 → e'.get 52 = ints (keysR n) → e'.get 53 = .int .i64 (keysR n).length →
              h1.next ≤ h'.next → h'.get h.next = h1.get h.next → h'.get (h.next + 2) = some (.map (encM ekey AV.bool (putA (x.kind, x.text) true mm))) → Q e' h' := fun e' h' s1 s2 r1 r2 r3 r4 r5 r6 r7 r8 =>
            hQ ((keysR n).length - (i + 1)) e' h' (by omega) ⟨i + 1, _, rfl, by omega, r1, r2, r3, r4, r5, by omega, by rw [r7, hgg], r8, by rw [hko]; simp [s1, s2]⟩
          clear hQ
          cases hsx : isScalarR x.kind with
          | false =>
            repeat' (first | (simp (disch := omega) [go_sem, S81, Graph.av, Graph.cells, Node.av, Node.cells, ints, fp, *]) | (omega) | (with_reducible refine Br_dec (fun hp => ?_) (fun hp => ?_)) | (with_reducible refine Br_not ?_) | (with_reducible refine Br_bool (fun hp => ?_) (fun hp => ?_)) | (with_reducible refine bG_dec (fun hp => ?_) (fun hp => ?_)) | (with_reducible refine bG_bool' (fun hp => ?_) (fun hp => ?_)) | (refine bC_v (isScalar_ok _) ?_) | ((with_reducible refine Go_regD _ _ ?hn ?_); case hn => rfl) | ((with_reducible refine Go_regN _ _ ?hn ?_); case hn => rfl) | (with_reducible refine dE_some ?_ ?_) | (with_reducible refine dN_some ?_ ?_) | (with_reducible refine dN_some' ?_ ?_) | ((with_reducible refine Rd_dG ?hn _ _ _ _ _ ?_); case hn => rfl) | (with_reducible refine dG_dec (fun hp => ?_) (fun hp => ?_)) | (with_reducible refine dG_bool' (fun hp => ?_) (fun hp => ?_)) | (with_reducible refine Rd_nil' ?_))
          | true =>
            unfold Graph.cells at hgg
            repeat' (first | (simp (disch := omega) [go_sem, S81, Graph.av, Graph.cells, Node.av, Node.cells, ints, fp, *]) | (omega) | (with_reducible refine Br_dec (fun hp => ?_) (fun hp => ?_)) | (with_reducible refine Br_not ?_) | (with_reducible refine Br_bool (fun hp => ?_) (fun hp => ?_)) | (with_reducible refine bG_dec (fun hp => ?_) (fun hp => ?_)) | (with_reducible refine bG_bool' (fun hp => ?_) (fun hp => ?_)) | (refine bC_v (isScalar_ok _) ?_) | (refine bC_spec (add_ok (h.next + 2) (x.kind, x.text) mm _ ?_ ?_) fun v h2 hv => ?_) | ((with_reducible refine Go_regD _ _ ?hn ?_); case hn => rfl) | ((with_reducible refine Go_regN _ _ ?hn ?_); case hn => rfl) | (with_reducible refine dE_some ?_ ?_) | (with_reducible refine dN_some ?_ ?_) | (with_reducible refine dN_some' ?_ ?_) | ((with_reducible refine Rd_dG ?hn _ _ _ _ _ ?_); case hn => rfl) | (with_reducible refine dG_dec (fun hp => ?_) (fun hp => ?_)) | (with_reducible refine dG_bool' (fun hp => ?_) (fun hp => ?_)) | (with_reducible refine Rd_nil' ?_))
            all_goals
              obtain ⟨-, k2, k3, k4⟩ := hv
              have k5 := k4 h.next (by simp only [go_sem]; omega) (by omega)
              clear k4
              simp (disch := omega) [go_sem] at k3 k5
              exact hgo _ _ hsx (by assumption) (by simp [go_sem]) (by simp [go_sem]) (by simp [go_sem]) (by simp [go_sem, ints]) (by simp [go_sem]) (by omega) k5 k2
        · have hnil : (keysR n).drop i = [] := by simp; omega
          rw [hnil, keysOkR] at hko
          clear hQ
          repeat' (first | (simp (disch := omega) [go_sem, S81, Graph.av, Graph.cells, Node.av, Node.cells, ints, *]) | (omega) | (with_reducible refine Br_dec (fun hp => ?_) (fun hp => ?_)) | (with_reducible refine Br_not ?_) | (with_reducible refine Br_bool (fun hp => ?_) (fun hp => ?_)) | (with_reducible refine bG_dec (fun hp => ?_) (fun hp => ?_)) | (with_reducible refine bG_bool' (fun hp => ?_) (fun hp => ?_)) | (refine bC_v (isText_ok _ _ (by omega)) ?_) | (refine bC_v (isScalar_ok _) ?_) | ((with_reducible refine Go_regD _ _ ?hn ?_); case hn => rfl) | ((with_reducible refine Go_regN _ _ ?hn ?_); case hn => rfl) | (with_reducible refine dE_some ?_ ?_) | (with_reducible refine dN_some ?_ ?_) | (with_reducible refine dN_some' ?_ ?_) | ((with_reducible refine Rd_dG ?hn _ _ _ _ _ ?_); case hn => rfl) | (with_reducible refine dG_dec (fun hp => ?_) (fun hp => ?_)) | (with_reducible refine dG_bool' (fun hp => ?_) (fun hp => ?_)) | (with_reducible refine Rd_nil' ?_))
end Go.Eng.Tryz
set_option maxRecDepth 20000
set_option maxHeartbeats 1000000
namespace Go.Eng.Tryz
open Go.Eng Go.Proofs Go.RowKit
def bump (u : List Int) (k : Int) : List Int := u.set k.toNat (u.getD k.toNat 0 + 1)
def usesK (u : List Int) (ks : List Int) : List Int := ks.foldl bump u
def uses0 (g : Graph) : List Int := bump (List.replicate g.nodes.length 0) g.root
def usesN (g : Graph) (ns : List Node) : List Int := ns.foldl (fun u n => usesK u n.kids) (uses0 g)
def rightR (g : Graph) : Bool :=
  if g.nodes.length = 0 ∨ 4096 < g.nodes.length ∨ g.root < 0 ∨ (g.nodes.length : Int) ≤ g.root then false
  else if g.nodes.all (isNodeR g) then !g.nodes.any fun n => (keysR n).any fun k => decide (1 < (usesN g g.nodes).getD k.toNat 0)
  else false
theorem bump_length (u : List Int) (k : Int) : (bump u k).length = u.length := by simp [bump]
theorem usesK_length : ∀ (ks u : List Int), (usesK u ks).length = u.length
  | [], u => rfl
  | k :: ks, u => by show (usesK (bump u k) ks).length = _; rw [usesK_length ks, bump_length]
theorem usesN_length (g : Graph) : ∀ (ns : List Node), (usesN g ns).length = g.nodes.length := by
  have : ∀ (ns : List Node) (u : List Int), (ns.foldl (fun u n => usesK u n.kids) u).length = u.length := by
    intro ns
    induction ns with
    | nil => intro u; rfl
    | cons n ns ih => intro u; simp only [List.foldl_cons]; rw [ih, usesK_length]
  intro ns
  unfold usesN
  rw [this]
  simp [uses0, bump_length]
def Upto (u : List Int) (b : Int) : Prop := ∀ x ∈ u, 0 ≤ x ∧ x ≤ b
theorem Upto.at {u : List Int} {b : Int} (h : Upto u b) (hb : 0 ≤ b) (i : Nat) : 0 ≤ u.getD i 0 ∧ u.getD i 0 ≤ b := by
  rw [List.getD_eq_getElem?_getD]
  cases hx : u[i]? with
  | none => simpa using hb
  | some x => simpa using h x (List.mem_of_getElem? hx)
theorem Upto.bump {u : List Int} {b : Int} (h : Upto u b) (hb : 0 ≤ b) (k : Int) : Upto (bump u k) (b + 1) := by
  intro x hx
  rcases List.mem_or_eq_of_mem_set hx with h1 | h1
  · have := h x h1; omega
  · have := h.at hb k.toNat; omega
def oftR (u : List Int) (k : Int) : Bool := decide (1 < u.getD k.toNat 0)
theorem oft_ok (u : List Int) (k : Int) (L M : Nat) (t t' : TypeId) (h : H) (h1 : 0 ≤ k) (h2 : k < u.length) (hg : h.get L = some (.cells [.sl M 0 1 u.length u.length true] t (some 0))) (hm : h.get M = some (.cells (u.map (AV.int .i64)) t' (some 0))) :
    Spc 84 [.int .i64 k, .ptr L 0] h fun v h' => v = .bool (oftR u k) ∧ h' = h := by
  refine sg ok84 rfl ?_
  unfold oftR
  have h3 : k.toNat < u.length := by omega
  repeat' (first | (simp (disch := omega) [go_sem, S84, *]) | (omega) | (with_reducible refine Br_dec (fun hp => ?_) (fun hp => ?_)) | (with_reducible refine Br_not ?_) | (with_reducible refine Br_bool (fun hp => ?_) (fun hp => ?_)) | (with_reducible refine bG_dec (fun hp => ?_) (fun hp => ?_)) | (with_reducible refine bG_bool' (fun hp => ?_) (fun hp => ?_)) | ((with_reducible refine Go_regD _ _ ?hn ?_); case hn => rfl) | ((with_reducible refine Go_regN _ _ ?hn ?_); case hn => rfl) | (with_reducible refine dE_some ?_ ?_) | (with_reducible refine dN_some ?_ ?_) | (with_reducible refine dN_some' ?_ ?_) | ((with_reducible refine Rd_dG ?hn _ _ _ _ _ ?_); case hn => rfl) | (with_reducible refine dG_dec (fun hp => ?_) (fun hp => ?_)) | (with_reducible refine dG_bool' (fun hp => ?_) (fun hp => ?_)) | (with_reducible refine Rd_nil' ?_))
theorem isNode_kids {g : Graph} {n : Node} (h : isNodeR g n = true) : ∀ k ∈ n.kids, 0 ≤ k ∧ k < g.nodes.length := by
  unfold isNodeR at h
  split at h
  · cases h
  · split at h
    · cases h
    · split at h
      · cases h
      · rename_i ha
        intro k hk
        have := List.any_eq_false.1 (by simpa using ha) k hk
        simp only [outR, Bool.or_eq_true, decide_eq_true_eq, not_or] at this
        omega
theorem take_snoc {α : Type} (l : List α) (i : Nat) (h : i < l.length) : l.take (i + 1) = l.take i ++ [l[i]] := by
  rw [List.take_succ_eq_append_getElem h]
theorem Upto.usesK : ∀ (ks : List Int) {u : List Int} {b : Int}, Upto u b → 0 ≤ b → Upto (usesK u ks) (b + ks.length)
  | [], u, b, h, hb => by simpa [Go.Eng.Tryz.usesK] using h
  | k :: ks, u, b, h, hb => by
    have := Upto.usesK ks (h.bump hb k) (by omega)
    simp only [List.length_cons]
    have e : b + ((ks.length + 1 : Nat) : Int) = b + 1 + ks.length := by omega
    rw [e]; exact this
theorem usesK_snoc (u : List Int) (ks : List Int) (i : Nat) (h : i < ks.length) : usesK u (ks.take (i + 1)) = bump (usesK u (ks.take i)) ks[i] := by
  unfold usesK; rw [take_snoc ks i h, List.foldl_append]; rfl
theorem usesN_snoc (g : Graph) (ns : List Node) (i : Nat) (h : i < ns.length) : usesN g (ns.take (i + 1)) = usesK (usesN g (ns.take i)) ns[i].kids := by
  unfold usesN; rw [take_snoc ns i h, List.foldl_append]; rfl
theorem bump_at {u : List Int} {k : Int} (h : k.toNat < u.length) : bump u k = u.set k.toNat (u[k.toNat] + 1) := by
  simp [bump, h]
theorem right_bad {g : Graph} {n : Node} (hn : n ∈ g.nodes) (h : isNodeR g n = false) : rightR g = false := by
  unfold rightR
  split
  · rfl
  · rw [if_neg]
    intro h1
    have := List.all_eq_true.1 h1 n hn
    rw [h] at this; cases this
def HasUses (h : H) (b : Nat) (g : Graph) (u : List Int) (n : Nat) : Prop :=
  b + 2 < h.next ∧ h.get b = some (.cells g.cells 24 (some 0)) ∧ h.get (b + 2) = some (.cells [.sl (b + 1) 0 1 n n true] 66 (some 0)) ∧ h.get (b + 1) = some (.cells (u.map (AV.int .i64)) 3 (some 0))
theorem Right_ok (g : Graph) (hg : Small g) : Puv 39 [g.av] (.bool (rightR g)) := by
  refine pv ok39 (by simp [AV.clL, cl_graph]) rfl fun h => ?_
  have hgn := hg.nodes
  by_cases c1 : g.nodes.length = 0
  · have e : rightR g = false := by simp [rightR, c1]
    repeat' (first | (simp (disch := omega) [go_sem, S39, Graph.av, Graph.cells, Node.av, Node.cells, ints, fp, *]) | (omega) | (with_reducible refine Br_dec (fun hp => ?_) (fun hp => ?_)) | (with_reducible refine Br_not ?_) | (with_reducible refine Br_bool (fun hp => ?_) (fun hp => ?_)) | (with_reducible refine bG_dec (fun hp => ?_) (fun hp => ?_)) | (with_reducible refine bG_bool' (fun hp => ?_) (fun hp => ?_)) | ((with_reducible refine Go_regD _ _ ?hn ?_); case hn => rfl) | ((with_reducible refine Go_regN _ _ ?hn ?_); case hn => rfl) | (with_reducible refine dE_some ?_ ?_) | (with_reducible refine dN_some ?_ ?_) | (with_reducible refine dN_some' ?_ ?_) | ((with_reducible refine Rd_dG ?hn _ _ _ _ _ ?_); case hn => rfl) | (with_reducible refine dG_dec (fun hp => ?_) (fun hp => ?_)) | (with_reducible refine dG_bool' (fun hp => ?_) (fun hp => ?_)) | (with_reducible refine Rd_nil' ?_))
  by_cases c2 : 4096 < g.nodes.length
  · have e : rightR g = false := by simp [rightR, c2]
    repeat' (first | (simp (disch := omega) [go_sem, S39, Graph.av, Graph.cells, Node.av, Node.cells, ints, fp, *]) | (omega) | (with_reducible refine Br_dec (fun hp => ?_) (fun hp => ?_)) | (with_reducible refine Br_not ?_) | (with_reducible refine Br_bool (fun hp => ?_) (fun hp => ?_)) | (with_reducible refine bG_dec (fun hp => ?_) (fun hp => ?_)) | (with_reducible refine bG_bool' (fun hp => ?_) (fun hp => ?_)) | ((with_reducible refine Go_regD _ _ ?hn ?_); case hn => rfl) | ((with_reducible refine Go_regN _ _ ?hn ?_); case hn => rfl) | (with_reducible refine dE_some ?_ ?_) | (with_reducible refine dN_some ?_ ?_) | (with_reducible refine dN_some' ?_ ?_) | ((with_reducible refine Rd_dG ?hn _ _ _ _ _ ?_); case hn => rfl) | (with_reducible refine dG_dec (fun hp => ?_) (fun hp => ?_)) | (with_reducible refine dG_bool' (fun hp => ?_) (fun hp => ?_)) | (with_reducible refine Rd_nil' ?_))
  by_cases c3 : g.root < 0
  · have e : rightR g = false := by simp [rightR, c3]
    repeat' (first | (simp (disch := omega) [go_sem, S39, Graph.av, Graph.cells, Node.av, Node.cells, ints, fp, *]) | (omega) | (with_reducible refine Br_dec (fun hp => ?_) (fun hp => ?_)) | (with_reducible refine Br_not ?_) | (with_reducible refine Br_bool (fun hp => ?_) (fun hp => ?_)) | (with_reducible refine bG_dec (fun hp => ?_) (fun hp => ?_)) | (with_reducible refine bG_bool' (fun hp => ?_) (fun hp => ?_)) | ((with_reducible refine Go_regD _ _ ?hn ?_); case hn => rfl) | ((with_reducible refine Go_regN _ _ ?hn ?_); case hn => rfl) | (with_reducible refine dE_some ?_ ?_) | (with_reducible refine dN_some ?_ ?_) | (with_reducible refine dN_some' ?_ ?_) | ((with_reducible refine Rd_dG ?hn _ _ _ _ _ ?_); case hn => rfl) | (with_reducible refine dG_dec (fun hp => ?_) (fun hp => ?_)) | (with_reducible refine dG_bool' (fun hp => ?_) (fun hp => ?_)) | (with_reducible refine Rd_nil' ?_))
  by_cases c4 : (g.nodes.length : Int) ≤ g.root
  · have e : rightR g = false := by simp [rightR, c4]
    repeat' (first | (simp (disch := omega) [go_sem, S39, Graph.av, Graph.cells, Node.av, Node.cells, ints, fp, *]) | (omega) | (with_reducible refine Br_dec (fun hp => ?_) (fun hp => ?_)) | (with_reducible refine Br_not ?_) | (with_reducible refine Br_bool (fun hp => ?_) (fun hp => ?_)) | (with_reducible refine bG_dec (fun hp => ?_) (fun hp => ?_)) | (with_reducible refine bG_bool' (fun hp => ?_) (fun hp => ?_)) | ((with_reducible refine Go_regD _ _ ?hn ?_); case hn => rfl) | ((with_reducible refine Go_regN _ _ ?hn ?_); case hn => rfl) | (with_reducible refine dE_some ?_ ?_) | (with_reducible refine dN_some ?_ ?_) | (with_reducible refine dN_some' ?_ ?_) | ((with_reducible refine Rd_dG ?hn _ _ _ _ _ ?_); case hn => rfl) | (with_reducible refine dG_dec (fun hp => ?_) (fun hp => ?_)) | (with_reducible refine dG_bool' (fun hp => ?_) (fun hp => ?_)) | (with_reducible refine Rd_nil' ?_))
  have hr : g.root.toNat < g.nodes.length := by omega
  repeat' (first | (simp (disch := omega) [go_sem, S39, Graph.av, Graph.cells, Node.av, Node.cells, ints, fp, putC_one, *]) | (omega) | (with_reducible refine Br_dec (fun hp => ?_) (fun hp => ?_)) | (with_reducible refine Br_not ?_) | (with_reducible refine Br_bool (fun hp => ?_) (fun hp => ?_)) | (with_reducible refine bG_dec (fun hp => ?_) (fun hp => ?_)) | (with_reducible refine bG_bool' (fun hp => ?_) (fun hp => ?_)) | ((with_reducible refine Go_regD _ _ ?hn ?_); case hn => rfl) | ((with_reducible refine Go_regN _ _ ?hn ?_); case hn => rfl) | (with_reducible refine dE_some ?_ ?_) | (with_reducible refine dN_some ?_ ?_) | (with_reducible refine dN_some' ?_ ?_) | ((with_reducible refine Rd_dG ?hn _ _ _ _ _ ?_); case hn => rfl) | (with_reducible refine dG_dec (fun hp => ?_) (fun hp => ?_)) | (with_reducible refine dG_bool' (fun hp => ?_) (fun hp => ?_)) | (with_reducible refine Rd_nil' ?_))
  refine Go_loop (fun m e h1 => ∃ i : Nat, m = g.nodes.length - i ∧ i ≤ g.nodes.length ∧ e.get 3 = .ptr (h.next + 2) 0 ∧ e.get 47 = .int .i64 i ∧ e.get 1 = .ptr h.next 0 ∧ e.get 45 = .fsl false 3 (g.nodes.map Node.av) ∧ e.get 46 = .int .i64 g.nodes.length
    ∧ (∀ (j : Nat) n, j < i → g.nodes[j]? = some n → isNodeR g n = true) ∧ Upto (usesN g (g.nodes.take i)) (1 + i * 1073741824) ∧ HasUses h1 h.next g (usesN g (g.nodes.take i)) g.nodes.length) (n := g.nodes.length) ?_ ?_
  · have h0 : usesN g [] = (List.replicate g.nodes.length (0 : Int)).set g.root.toNat 1 := by simp [usesN, uses0, bump, hr]
    refine ⟨0, by omega, by omega, ?_, ?_, ?_, ?_, ?_, ?_, ?_, ?_⟩
    · simp [go_sem]
    · simp [go_sem]
    · simp [go_sem]
    · simp [go_sem]
    · simp [go_sem]
    · intro j n hj; omega
    · simp only [List.take_zero, h0]
      intro x hx
      rcases List.mem_or_eq_of_mem_set hx with h1 | h1
      · have := (List.mem_replicate.1 h1).2; omega
      · omega
    · simp only [List.take_zero, h0]
      refine ⟨?_, ?_, ?_, ?_⟩ <;> simp (disch := omega) [go_sem, Graph.cells, ← set_ints, List.map_replicate]
  · rintro m e h1 ⟨i, rfl, hi, q3, q47, q1, q45, q46, hno, hup, hus⟩ Q hQ
    by_cases hlt : i < g.nodes.length
    · have hsn := usesN_snoc g g.nodes i hlt
      have hmem : g.nodes[i] ∈ g.nodes := List.getElem_mem hlt
      obtain ⟨hs1, hs2⟩ := hg.each _ hmem
      have hbad := right_bad hmem
      have hkids := isNode_kids (g := g) (n := g.nodes[i])
      have hnode := isNode_ok g g.nodes[i] hg ⟨hs1, hs2⟩
      obtain ⟨u1, u2, u3, u4⟩ := hus
      have hsn : g.nodes[i]? = some g.nodes[i] := List.getElem?_eq_getElem hlt
      unfold Graph.cells at u2
      unfold Graph.av Graph.cells Node.av Node.cells ints at hnode
      cases hnd : isNodeR g g.nodes[i] with
      | false =>
        have hb := hbad hnd
        rw [hnd] at hnode
        clear hQ hno hbad hup hkids
        repeat' (first | (simp (disch := omega) [go_sem, S39, Graph.av, Graph.cells, Node.av, Node.cells, ints, fp, *]) | (omega) | (with_reducible refine Br_dec (fun hp => ?_) (fun hp => ?_)) | (with_reducible refine Br_not ?_) | (with_reducible refine Br_bool (fun hp => ?_) (fun hp => ?_)) | (with_reducible refine bG_dec (fun hp => ?_) (fun hp => ?_)) | (with_reducible refine bG_bool' (fun hp => ?_) (fun hp => ?_)) | (refine bC_v hnode ?_) | ((with_reducible refine Go_regD _ _ ?hn ?_); case hn => rfl) | ((with_reducible refine Go_regN _ _ ?hn ?_); case hn => rfl) | (with_reducible refine dE_some ?_ ?_) | (with_reducible refine dN_some ?_ ?_) | (with_reducible refine dN_some' ?_ ?_) | ((with_reducible refine Rd_dG ?hn _ _ _ _ _ ?_); case hn => rfl) | (with_reducible refine dG_dec (fun hp => ?_) (fun hp => ?_)) | (with_reducible refine dG_bool' (fun hp => ?_) (fun hp => ?_)) | (with_reducible refine Rd_nil' ?_))
      | true =>
        rw [hnd] at hnode
        have hk := hkids hnd
        have hQ' : ∀ e' h', e'.get 3 = .ptr (h.next + 2) 0 → e'.get 47 = .int .i64 ((i : Int) + 1) → e'.get 1 = .ptr h.next 0 → e'.get 45 = .fsl false 3 (g.nodes.map Node.av) → e'.get 46 = .int .i64 g.nodes.length → HasUses h' h.next g (usesK (usesN g (g.nodes.take i)) g.nodes[i].kids) g.nodes.length → Q e' h' :=
          fun e' h' r1 r2 r3 r4 r5 r6 => hQ (g.nodes.length - (i + 1)) e' h' (by omega) ⟨i + 1, rfl, by omega, r1, r2, r3, r4, r5, fun j n hj hjn => by
            by_cases hji : j = i
            · subst hji; rw [hsn] at hjn; injection hjn with hjn; rw [← hjn]; exact hnd
            · exact hno j n (by omega) hjn, by
            rw [usesN_snoc g g.nodes i hlt]
            have := hup.usesK g.nodes[i].kids (by omega)
            intro x hx
            have := this x hx
            omega, by rw [usesN_snoc g g.nodes i hlt]; exact r6⟩
        clear hQ hno hbad hkids
        repeat' (first | (simp (disch := omega) [go_sem, S39, Graph.av, Graph.cells, Node.av, Node.cells, ints, fp, *]) | (omega) | (with_reducible refine Br_dec (fun hp => ?_) (fun hp => ?_)) | (with_reducible refine Br_not ?_) | (with_reducible refine Br_bool (fun hp => ?_) (fun hp => ?_)) | (with_reducible refine bG_dec (fun hp => ?_) (fun hp => ?_)) | (with_reducible refine bG_bool' (fun hp => ?_) (fun hp => ?_)) | (refine bC_v hnode ?_) | ((with_reducible refine Go_regD _ _ ?hn ?_); case hn => rfl) | ((with_reducible refine Go_regN _ _ ?hn ?_); case hn => rfl) | (with_reducible refine dE_some ?_ ?_) | (with_reducible refine dN_some ?_ ?_) | (with_reducible refine dN_some' ?_ ?_) | ((with_reducible refine Rd_dG ?hn _ _ _ _ _ ?_); case hn => rfl) | (with_reducible refine dG_dec (fun hp => ?_) (fun hp => ?_)) | (with_reducible refine dG_bool' (fun hp => ?_) (fun hp => ?_)) | (with_reducible refine Rd_nil' ?_))
        obtain ⟨u0, hu0⟩ : ∃ u0, usesN g (g.nodes.take i) = u0 := ⟨_, rfl⟩
        have hl0 : u0.length = g.nodes.length := by rw [← hu0]; exact usesN_length g _
        rw [hu0] at u4 hQ' hup
        clear hnode
        refine Go_loop (fun m e h2 => ∃ j : Nat, m = g.nodes[i].kids.length - j ∧ j ≤ g.nodes[i].kids.length ∧ e.get 58 = .int .i64 j ∧ e.get 3 = .ptr (h.next + 2) 0 ∧ e.get 56 = .fsl false 1 (g.nodes[i].kids.map (AV.int .i64)) ∧ e.get 1 = .ptr h.next 0 ∧ e.get 45 = .fsl false 3 (g.nodes.map Node.av) ∧ e.get 46 = .int .i64 g.nodes.length
          ∧ e.get 47 = .int .i64 i ∧ e.get 57 = .int .i64 g.nodes[i].kids.length ∧ HasUses h2 h.next g (usesK u0 (g.nodes[i].kids.take j)) g.nodes.length) (n := g.nodes[i].kids.length) ?_ ?_
        · refine ⟨0, by omega, by omega, ?_, ?_, ?_, ?_, ?_, ?_, ?_, ?_, ?_, ?_, ?_, ?_⟩ <;> simp (disch := omega) [go_sem, Graph.cells, usesK, u2, u3, u4, ints] <;> omega
        · rintro m e h2 ⟨j, rfl, hj, p58, p3, p56, p1, p45, p46, p47, p57, hus2⟩ Q2 hQ2
          by_cases hjt : j < g.nodes[i].kids.length
          · have hks := usesK_snoc u0 g.nodes[i].kids j hjt
            have hkj := hk _ (List.getElem_mem hjt)
            have hupj := hup.usesK (g.nodes[i].kids.take j) (by omega)
            have hlj : (usesK u0 (g.nodes[i].kids.take j)).length = g.nodes.length := by rw [usesK_length, hl0]
            have hQ2' : ∀ e' h', e'.get 58 = .int .i64 ((j : Int) + 1) → e'.get 3 = .ptr (h.next + 2) 0 → e'.get 56 = .fsl false 1 (g.nodes[i].kids.map (AV.int .i64)) → e'.get 1 = .ptr h.next 0 → e'.get 45 = .fsl false 3 (g.nodes.map Node.av) → e'.get 46 = .int .i64 g.nodes.length → e'.get 47 = .int .i64 i → e'.get 57 = .int .i64 g.nodes[i].kids.length →
                HasUses h' h.next g (bump (usesK u0 (g.nodes[i].kids.take j)) g.nodes[i].kids[j]) g.nodes.length → Q2 e' h' := fun e' h' r1 r2 r3 r4 r5 r6 r7 r8 r9 =>
              hQ2 (g.nodes[i].kids.length - (j + 1)) e' h' (by omega) ⟨j + 1, rfl, by omega, r1, r2, r3, r4, r5, r6, r7, r8, by rw [hks]; exact r9⟩
            obtain ⟨v1, v2, v3, v4⟩ := hus2
            clear hQ2 hks hup hk hQ'
            generalize usesK u0 (g.nodes[i].kids.take j) = u at *
            have hkl : g.nodes[i].kids[j].toNat < u.length := by omega
            have hval := hupj _ (List.getElem_mem hkl)
            have hjl : (g.nodes[i].kids.take j).length ≤ 1073741824 := by rw [List.length_take]; omega
            have hset := bump_at hkl
            repeat' (first | (simp (disch := omega) [go_sem, S39, Graph.av, Graph.cells, Node.av, Node.cells, ints, fp, putC_one, *]) | (omega) | (with_reducible refine Br_dec (fun hp => ?_) (fun hp => ?_)) | (with_reducible refine Br_not ?_) | (with_reducible refine Br_bool (fun hp => ?_) (fun hp => ?_)) | (with_reducible refine bG_dec (fun hp => ?_) (fun hp => ?_)) | (with_reducible refine bG_bool' (fun hp => ?_) (fun hp => ?_)) | ((with_reducible refine Go_regD _ _ ?hn ?_); case hn => rfl) | ((with_reducible refine Go_regN _ _ ?hn ?_); case hn => rfl) | (with_reducible refine dE_some ?_ ?_) | (with_reducible refine dN_some ?_ ?_) | (with_reducible refine dN_some' ?_ ?_) | ((with_reducible refine Rd_dG ?hn _ _ _ _ _ ?_); case hn => rfl) | (with_reducible refine dG_dec (fun hp => ?_) (fun hp => ?_)) | (with_reducible refine dG_bool' (fun hp => ?_) (fun hp => ?_)) | (with_reducible refine Rd_nil' ?_))
            refine hQ2' _ _ ?_ ?_ ?_ ?_ ?_ ?_ ?_ ?_ ⟨?_, ?_, ?_, ?_⟩ <;> simp (disch := omega) [go_sem, Graph.cells, *] <;> first | omega | exact v2
          · have hall : g.nodes[i].kids.take j = g.nodes[i].kids := List.take_of_length_le (by omega)
            rw [hall] at hus2
            clear hQ2
            repeat' (first | (simp (disch := omega) [go_sem, S39, Graph.av, Graph.cells, Node.av, Node.cells, ints, fp, *]) | (omega) | (with_reducible refine Br_dec (fun hp => ?_) (fun hp => ?_)) | (with_reducible refine Br_not ?_) | (with_reducible refine Br_bool (fun hp => ?_) (fun hp => ?_)) | (with_reducible refine bG_dec (fun hp => ?_) (fun hp => ?_)) | (with_reducible refine bG_bool' (fun hp => ?_) (fun hp => ?_)) | ((with_reducible refine Go_regD _ _ ?hn ?_); case hn => rfl) | ((with_reducible refine Go_regN _ _ ?hn ?_); case hn => rfl) | (with_reducible refine dE_some ?_ ?_) | (with_reducible refine dN_some ?_ ?_) | (with_reducible refine dN_some' ?_ ?_) | ((with_reducible refine Rd_dG ?hn _ _ _ _ _ ?_); case hn => rfl) | (with_reducible refine dG_dec (fun hp => ?_) (fun hp => ?_)) | (with_reducible refine dG_bool' (fun hp => ?_) (fun hp => ?_)) | (with_reducible refine Rd_nil' ?_))
            exact hQ' _ _ (by simp [go_sem]) (by simp [go_sem]) (by simp [go_sem]) (by simp [go_sem]) (by simp [go_sem]) hus2
    · have hall : g.nodes.take i = g.nodes := List.take_of_length_le (by omega)
      rw [hall] at hus
      have hnodes : ∀ n ∈ g.nodes, isNodeR g n = true := fun n hn => by
        obtain ⟨j, hj, rfl⟩ := List.mem_iff_getElem.1 hn
        exact hno j _ (by omega) (List.getElem?_eq_getElem hj)
      obtain ⟨U, hU⟩ : ∃ U, usesN g g.nodes = U := ⟨_, rfl⟩
      have hUl : U.length = g.nodes.length := by rw [← hU]; exact usesN_length g _
      have hR : rightR g = !g.nodes.any fun n => (keysR n).any (oftR U) := by
        unfold rightR
        rw [if_neg (by omega), if_pos (List.all_eq_true.2 hnodes)]
        simp only [hU]
        rfl
      have hbad : ∀ n ∈ g.nodes, (keysR n).any (oftR U) = true → rightR g = false := fun n hn hf => by
        rw [hR]
        simp only [Bool.not_eq_false']
        exact List.any_eq_true.2 ⟨_, hn, hf⟩
      have hgood : (∀ n ∈ g.nodes, (keysR n).any (oftR U) = false) → rightR g = true := fun hf => by
        rw [hR]
        simp only [Bool.not_eq_true']
        apply List.any_eq_false.2
        intro n hn
        rw [hf n hn]; simp
      rw [hU] at hus
      clear hQ hno hup hR
      obtain ⟨u1, u2, u3, u4⟩ := hus
      unfold Graph.cells at u2
      repeat' (first | (simp (disch := omega) [go_sem, S39, Graph.av, Graph.cells, Node.av, Node.cells, ints, fp, *]) | (omega) | (with_reducible refine Br_dec (fun hp => ?_) (fun hp => ?_)) | (with_reducible refine Br_not ?_) | (with_reducible refine Br_bool (fun hp => ?_) (fun hp => ?_)) | (with_reducible refine bG_dec (fun hp => ?_) (fun hp => ?_)) | (with_reducible refine bG_bool' (fun hp => ?_) (fun hp => ?_)) | ((with_reducible refine Go_regD _ _ ?hn ?_); case hn => rfl) | ((with_reducible refine Go_regN _ _ ?hn ?_); case hn => rfl) | (with_reducible refine dE_some ?_ ?_) | (with_reducible refine dN_some ?_ ?_) | (with_reducible refine dN_some' ?_ ?_) | ((with_reducible refine Rd_dG ?hn _ _ _ _ _ ?_); case hn => rfl) | (with_reducible refine dG_dec (fun hp => ?_) (fun hp => ?_)) | (with_reducible refine dG_bool' (fun hp => ?_) (fun hp => ?_)) | (with_reducible refine Rd_nil' ?_))
      refine Go_loop (fun m e h2 => ∃ j : Nat, m = g.nodes.length - j ∧ j ≤ g.nodes.length ∧ e.get 73 = .int .i64 j ∧ e.get 3 = .ptr (h.next + 2) 0 ∧ e.get 71 = .fsl false 3 (g.nodes.map Node.av) ∧ e.get 72 = .int .i64 g.nodes.length
        ∧ (∀ (k : Nat) n, k < j → g.nodes[k]? = some n → (keysR n).any (oftR U) = false) ∧ HasUses h2 h.next g U g.nodes.length) (n := g.nodes.length) ?_ ?_
      · refine ⟨0, by omega, by omega, ?_, ?_, ?_, ?_, fun k n hk => by omega, ⟨u1, u2, u3, u4⟩⟩ <;> simp (disch := omega) [go_sem]
      · rintro m e h2 ⟨j, rfl, hj, p73, p3, p71, p72, hno, v1, v2, v3, v4⟩ Q2 hQ2
        by_cases hjt : j < g.nodes.length
        · have hmem : g.nodes[j] ∈ g.nodes := List.getElem_mem hjt
          obtain ⟨hs1, hs2⟩ := hg.each _ hmem
          have hsn : g.nodes[j]? = some g.nodes[j] := List.getElem?_eq_getElem hjt
          have hkeys := keys_ok g.nodes[j] (by omega)
          have hcon : ∀ f : H, f.get (h.next + 2) = some (.cells [.sl (h.next + 1) 0 1 g.nodes.length g.nodes.length true] 66 (some 0)) → f.get (h.next + 1) = some (.cells (U.map (AV.int .i64)) 3 (some 0)) →
              Spc 82 [ints (keysR g.nodes[j]), .fn 84 [] [.ptr (h.next + 2) 0]] f fun v h' => v = .bool ((keysR g.nodes[j]).any (oftR U)) ∧ h' = f := fun f f1 f2 =>
            containsInts_ok false _ (oftR U) _ [] [.ptr (h.next + 2) 0] f (by
              have : (keysR g.nodes[j]).length ≤ g.nodes[j].kids.length := by
                unfold keysR
                split
                · exact evens_len _
                · simp
              omega) fun x hx => by
              have hxk := isNode_kids (hnodes _ hmem) x (keysR_sub hx)
              exact oft_ok U x (h.next + 2) (h.next + 1) _ _ f hxk.1 (by omega) (by rw [hUl]; exact f1) f2
          have hQ2' : ∀ e' h', (keysR g.nodes[j]).any (oftR U) = false → e'.get 73 = .int .i64 ((j : Int) + 1) → e'.get 3 = .ptr (h.next + 2) 0 → e'.get 71 = .fsl false 3 (g.nodes.map Node.av) → e'.get 72 = .int .i64 g.nodes.length → HasUses h' h.next g U g.nodes.length → Q2 e' h' :=
            fun e' h' r0 r1 r2 r3 r4 r5 => hQ2 (g.nodes.length - (j + 1)) e' h' (by omega) ⟨j + 1, rfl, by omega, r1, r2, r3, r4, fun k n hk hkn => by
              by_cases hkj : k = j
              · subst hkj; rw [hsn] at hkn; injection hkn with hkn; rw [← hkn]; exact r0
              · exact hno k n (by omega) hkn, r5⟩
          have hfound := hbad _ hmem
          clear hQ2 hno hnodes hbad hgood
          cases hany : (keysR g.nodes[j]).any (oftR U) with
          | true =>
            have hf := hfound hany
            rw [hany] at hcon
            clear hfound
            repeat' (first | (simp (disch := omega) [go_sem, S39, Graph.av, Graph.cells, Node.av, Node.cells, ints, fp, *]) | (omega) | (with_reducible refine Br_dec (fun hp => ?_) (fun hp => ?_)) | (with_reducible refine Br_not ?_) | (with_reducible refine Br_bool (fun hp => ?_) (fun hp => ?_)) | (with_reducible refine bG_dec (fun hp => ?_) (fun hp => ?_)) | (with_reducible refine bG_bool' (fun hp => ?_) (fun hp => ?_)) | (refine bC_pure hkeys fun v hv => ?_; subst hv) | (refine bC_spec (hcon _ (by simp (disch := omega) [go_sem, *]) (by simp (disch := omega) [go_sem, *])) fun v h3 hv => ?_; obtain ⟨rfl, rfl⟩ := hv) | ((with_reducible refine Go_regD _ _ ?hn ?_); case hn => rfl) | ((with_reducible refine Go_regN _ _ ?hn ?_); case hn => rfl) | (with_reducible refine dE_some ?_ ?_) | (with_reducible refine dN_some ?_ ?_) | (with_reducible refine dN_some' ?_ ?_) | ((with_reducible refine Rd_dG ?hn _ _ _ _ _ ?_); case hn => rfl) | (with_reducible refine dG_dec (fun hp => ?_) (fun hp => ?_)) | (with_reducible refine dG_bool' (fun hp => ?_) (fun hp => ?_)) | (with_reducible refine Rd_nil' ?_))
          | false =>
            rw [hany] at hcon
            clear hfound
            repeat' (first | (simp (disch := omega) [go_sem, S39, Graph.av, Graph.cells, Node.av, Node.cells, ints, fp, *]) | (omega) | (with_reducible refine Br_dec (fun hp => ?_) (fun hp => ?_)) | (with_reducible refine Br_not ?_) | (with_reducible refine Br_bool (fun hp => ?_) (fun hp => ?_)) | (with_reducible refine bG_dec (fun hp => ?_) (fun hp => ?_)) | (with_reducible refine bG_bool' (fun hp => ?_) (fun hp => ?_)) | (refine bC_pure hkeys fun v hv => ?_; subst hv) | (refine bC_spec (hcon _ (by simp (disch := omega) [go_sem, *]) (by simp (disch := omega) [go_sem, *])) fun v h3 hv => ?_; obtain ⟨rfl, rfl⟩ := hv) | ((with_reducible refine Go_regD _ _ ?hn ?_); case hn => rfl) | ((with_reducible refine Go_regN _ _ ?hn ?_); case hn => rfl) | (with_reducible refine dE_some ?_ ?_) | (with_reducible refine dN_some ?_ ?_) | (with_reducible refine dN_some' ?_ ?_) | ((with_reducible refine Rd_dG ?hn _ _ _ _ _ ?_); case hn => rfl) | (with_reducible refine dG_dec (fun hp => ?_) (fun hp => ?_)) | (with_reducible refine dG_bool' (fun hp => ?_) (fun hp => ?_)) | (with_reducible refine Rd_nil' ?_))
            exact hQ2' _ _ hany (by simp [go_sem]) (by simp [go_sem]) (by simp [go_sem]) (by simp [go_sem]) ⟨by simp [go_sem]; omega, by simp (disch := omega) [go_sem, v2], by simp (disch := omega) [go_sem, v3], by simp (disch := omega) [go_sem, v4]⟩
        · have hr : rightR g = true := hgood fun n hn => by
            obtain ⟨k, hk, rfl⟩ := List.mem_iff_getElem.1 hn
            exact hno k _ (by omega) (List.getElem?_eq_getElem hk)
          clear hQ2 hno hbad hgood
          repeat' (first | (simp (disch := omega) [go_sem, S39, Graph.av, Graph.cells, Node.av, Node.cells, ints, fp, *]) | (omega) | (with_reducible refine Br_dec (fun hp => ?_) (fun hp => ?_)) | (with_reducible refine Br_not ?_) | (with_reducible refine Br_bool (fun hp => ?_) (fun hp => ?_)) | (with_reducible refine bG_dec (fun hp => ?_) (fun hp => ?_)) | (with_reducible refine bG_bool' (fun hp => ?_) (fun hp => ?_)) | ((with_reducible refine Go_regD _ _ ?hn ?_); case hn => rfl) | ((with_reducible refine Go_regN _ _ ?hn ?_); case hn => rfl) | (with_reducible refine dE_some ?_ ?_) | (with_reducible refine dN_some ?_ ?_) | (with_reducible refine dN_some' ?_ ?_) | ((with_reducible refine Rd_dG ?hn _ _ _ _ _ ?_); case hn => rfl) | (with_reducible refine dG_dec (fun hp => ?_) (fun hp => ?_)) | (with_reducible refine dG_bool' (fun hp => ?_) (fun hp => ?_)) | (with_reducible refine Rd_nil' ?_))
end Go.Eng.Tryz
set_option maxRecDepth 20000
set_option maxHeartbeats 1000000
namespace Go.Eng.Tryz
open Go.Eng Go.Proofs Go.RowKit
def epair (x : Int × Int) : AV := .agg [.int .i64 x.1, .int .i64 x.2]
def pairsL : List Int → List (Int × Int)
  | a :: b :: l => (a, b) :: pairsL l
  | _ => []
def entF (g : Graph) (l : List (Int × Int)) : List ((Int × List Nat) × (Int × Int)) := l.foldl (fun m p => putA (keyAt g p.1) p m) []
def entR (g : Graph) (n : Node) : List ((Int × List Nat) × (Int × Int)) := entF g (pairsL n.kids)
theorem pairs_take : ∀ (l : List Int) (i : Nat) (h : i + 1 < l.length), i % 2 = 0 → pairsL (l.take (i + 2)) = pairsL (l.take i) ++ [(l[i], l[i + 1])]
  | [], i, h, _ => by simp at h
  | [a], i, h, _ => by simp at h
  | a :: b :: l, 0, h, _ => by simp [pairsL]
  | a :: b :: l, 1, h, h0 => by omega
  | a :: b :: l, i + 2, h, h0 => by
    have := pairs_take l i (by simp at h; omega) (by omega)
    rw [List.take_succ_cons, List.take_succ_cons, List.take_succ_cons, List.take_succ_cons]
    simp only [pairsL]
    rw [this]; rfl
theorem pairs_all : ∀ (l : List Int) (i : Nat), i % 2 = 0 → ¬ i + 1 < l.length → i ≤ l.length → pairsL (l.take i) = pairsL l
  | [], i, _, _, _ => by simp [pairsL]
  | [a], i, h0, h1, h2 => by
    have : i = 0 := by simp at h2; omega
    subst this; simp [pairsL]
  | a :: b :: l, 0, _, h1, _ => by simp at h1
  | a :: b :: l, 1, h0, _, _ => by omega
  | a :: b :: l, i + 2, h0, h1, h2 => by
    rw [List.take_succ_cons, List.take_succ_cons]
    simp only [pairsL]
    rw [pairs_all l i (by omega) (by simp at h1; omega) (by simp at h2; omega)]
@[go_sem] theorem up_key_pair (h : H) (l : Nat) (a : Int) (b : List Nat) (x y : Int) (m : List ((Int × List Nat) × (Int × Int))) :
    upO (.many [.int, .str]) l (.agg [.int .i64 a, .str b]) (.agg [.int .i64 x, .int .i64 y]) h (some (.map (encM ekey epair m))) = some (.any, h.set l (.map (encM ekey epair (putA (a, b) (x, y) m)))) := up_key h l a b epair (x, y) m _ rfl
theorem entries_ok (g : Graph) (n : Node) (hg : Small g) (hn : n.kids.length < 1073741824) (hk : ∀ k ∈ n.kids, 0 ≤ k ∧ k < g.nodes.length) (h : H) :
    Spc 97 [g.av, n.av] h fun v h' => ∃ M, v = .map M ∧ h.next ≤ M ∧ M < h'.next ∧ h'.get M = some (.map (encM ekey epair (entR g n))) ∧ ∀ j, j < h.next → h'.get j = h.get j := by
  refine sg ok97 rfl ?_
  have hgn := hg.nodes
  repeat' (first | (simp (disch := omega) [go_sem, S97, Graph.av, Graph.cells, Node.av, Node.cells, ints, fp, *]) | (omega) | (with_reducible refine Br_dec (fun hp => ?_) (fun hp => ?_)) | (with_reducible refine Br_not ?_) | (with_reducible refine Br_bool (fun hp => ?_) (fun hp => ?_)) | (with_reducible refine bG_dec (fun hp => ?_) (fun hp => ?_)) | (with_reducible refine bG_bool' (fun hp => ?_) (fun hp => ?_)) | ((with_reducible refine Go_regD _ _ ?hn ?_); case hn => rfl) | ((with_reducible refine Go_regN _ _ ?hn ?_); case hn => rfl) | (with_reducible refine dE_some ?_ ?_) | (with_reducible refine dN_some ?_ ?_) | (with_reducible refine dN_some' ?_ ?_) | ((with_reducible refine Rd_dG ?hn _ _ _ _ _ ?_); case hn => rfl) | (with_reducible refine dG_dec (fun hp => ?_) (fun hp => ?_)) | (with_reducible refine dG_bool' (fun hp => ?_) (fun hp => ?_)) | (with_reducible refine Rd_nil' ?_))
  refine Go_loop (fun m e h1 => ∃ i : Nat, m = n.kids.length + 1 - i ∧ i % 2 = 0 ∧ i ≤ n.kids.length ∧ e.get 6 = .int .i64 i ∧ e.get 3 = .ptr (h.next + 1) 0 ∧ e.get 5 = .map (h.next + 2) ∧ e.get 2 = .ptr h.next 0 ∧ h.next + 2 < h1.next
    ∧ h1.get h.next = some (.cells g.cells 24 (some 0)) ∧ h1.get (h.next + 1) = some (.cells n.cells 68 (some 0)) ∧ h1.get (h.next + 2) = some (.map (encM ekey epair (entF g (pairsL (n.kids.take i))))) ∧ ∀ j, j < h.next → h1.get j = h.get j) (n := n.kids.length + 1) ?_ ?_
  · refine ⟨0, by omega, by omega, by omega, ?_, ?_, ?_, ?_, ?_, ?_, ?_, ?_, ?_⟩
    all_goals first | (intro j hj; simp (disch := omega) [go_sem]; done) | simp (disch := omega) [go_sem, Graph.cells, Node.cells, ints, pairsL, entF, encM]
  · rintro m e h1 ⟨i, rfl, h0, hi, q6, q3, q5, q2, hn1, hgg, hgn', hgm, hold⟩ Q hQ
    by_cases hlt : i + 1 < n.kids.length
    · have hpt := pairs_take n.kids i hlt h0
      have ha := hk n.kids[i] (List.getElem_mem (by omega))
      obtain ⟨x, hx⟩ : ∃ x, g.nodes[n.kids[i].toNat]? = some x := ⟨_, List.getElem?_eq_getElem (show n.kids[i].toNat < g.nodes.length by omega)⟩
      have hkey : keyAt g n.kids[i] = (x.kind, x.text) := by simp [keyAt, hx]
      have hlt' : n.kids[i].toNat < g.nodes.length := by omega
      have hx' : g.nodes[n.kids[i].toNat] = x := by rw [List.getElem?_eq_getElem hlt'] at hx; injection hx
      have hQ' : ∀ e' h', e'.get 6 = .int .i64 ((i : Int) + 2) → e'.get 3 = .ptr (h.next + 1) 0 → e'.get 5 = .map (h.next + 2) → e'.get 2 = .ptr h.next 0 → h1.next ≤ h'.next →
          h'.get h.next = h1.get h.next → h'.get (h.next + 1) = h1.get (h.next + 1) → h'.get (h.next + 2) = some (.map (encM ekey epair (putA (x.kind, x.text) (n.kids[i], n.kids[i + 1]) (entF g (pairsL (n.kids.take i)))))) → (∀ j, j < h.next → h'.get j = h1.get j) → Q e' h' :=
        fun e' h' r1 r2 r3 r4 r5 r6 r7 r8 r9 => hQ (n.kids.length + 1 - (i + 2)) e' h' (by omega) ⟨i + 2, rfl, by omega, by omega, r1, r2, r3, r4, by omega, by rw [r6, hgg], by rw [r7, hgn'], by rw [r8, hpt]; simp [entF, hkey], fun j hj => by rw [r9 j hj, hold j hj]⟩
      unfold Graph.cells at hgg
      unfold Node.cells ints at hgn'
      generalize entF g (pairsL (n.kids.take i)) = mm at *
      clear hQ hpt hkey hold
      repeat' (first | (simp (disch := omega) [go_sem, S97, Graph.av, Graph.cells, Node.av, Node.cells, ints, fp, *]) | (omega) | (with_reducible refine Br_dec (fun hp => ?_) (fun hp => ?_)) | (with_reducible refine Br_not ?_) | (with_reducible refine Br_bool (fun hp => ?_) (fun hp => ?_)) | (with_reducible refine bG_dec (fun hp => ?_) (fun hp => ?_)) | (with_reducible refine bG_bool' (fun hp => ?_) (fun hp => ?_)) | ((with_reducible refine Go_regD _ _ ?hn ?_); case hn => rfl) | ((with_reducible refine Go_regN _ _ ?hn ?_); case hn => rfl) | (with_reducible refine dE_some ?_ ?_) | (with_reducible refine dN_some ?_ ?_) | (with_reducible refine dN_some' ?_ ?_) | ((with_reducible refine Rd_dG ?hn _ _ _ _ _ ?_); case hn => rfl) | (with_reducible refine dG_dec (fun hp => ?_) (fun hp => ?_)) | (with_reducible refine dG_bool' (fun hp => ?_) (fun hp => ?_)) | (with_reducible refine Rd_nil' ?_))
      refine hQ' _ _ (by simp [go_sem]) (by simp [go_sem]) (by simp [go_sem]) (by simp [go_sem]) (by simp [go_sem]) ?_ ?_ ?_ fun j hj => ?_ <;> simp (disch := omega) [go_sem]
    · have hpa := pairs_all n.kids i h0 hlt hi
      rw [hpa] at hgm
      clear hQ
      repeat' (first | (simp (disch := omega) [go_sem, S97, Graph.av, Graph.cells, Node.av, Node.cells, ints, fp, *]) | (omega) | (with_reducible refine Br_dec (fun hp => ?_) (fun hp => ?_)) | (with_reducible refine Br_not ?_) | (with_reducible refine Br_bool (fun hp => ?_) (fun hp => ?_)) | (with_reducible refine bG_dec (fun hp => ?_) (fun hp => ?_)) | (with_reducible refine bG_bool' (fun hp => ?_) (fun hp => ?_)) | ((with_reducible refine Go_regD _ _ ?hn ?_); case hn => rfl) | ((with_reducible refine Go_regN _ _ ?hn ?_); case hn => rfl) | (with_reducible refine dE_some ?_ ?_) | (with_reducible refine dN_some ?_ ?_) | (with_reducible refine dN_some' ?_ ?_) | ((with_reducible refine Rd_dG ?hn _ _ _ _ _ ?_); case hn => rfl) | (with_reducible refine dG_dec (fun hp => ?_) (fun hp => ?_)) | (with_reducible refine dG_bool' (fun hp => ?_) (fun hp => ?_)) | (with_reducible refine Rd_nil' ?_))
      exact ⟨rfl, hold⟩
/-! ### Find -/
def findR (g : Graph) (at' : Int) (k : Int) (s : List Nat) : Option Int :=
  if rightR g = true ∧ 0 ≤ at' then match g.nodes[at'.toNat]? with
    | some n => if n.kind = 6 then (getA (k, s) (entR g n)).map (·.2) else none
    | none => none
  else none
def optV (o : Option Int) : AV := match o with
  | some x => .tup [.int .i64 x, .bool true]
  | none => .tup [.int .i64 0, .bool false]
theorem right_parts {g : Graph} (h : rightR g = true) : g.nodes.length ≤ 4096 ∧ 0 ≤ g.root ∧ g.root < g.nodes.length ∧ ∀ n ∈ g.nodes, isNodeR g n = true := by
  unfold rightR at h
  split at h
  · cases h
  · split at h
    · rename_i h1 h2
      refine ⟨by omega, by omega, by omega, List.all_eq_true.1 h2⟩
    · cases h
theorem Find_ok (g : Graph) (hg : Small g) (at' k : Int) (s : List Nat) : Puv 46 [g.av, .int .i64 at', .int .i64 k, .str s] (optV (findR g at' k s)) := by
  refine pv ok46 (by simp [AV.clL, AV.cl, cl_graph]) rfl fun h => ?_
  have hgn := hg.nodes
  have hright := Right_ok g hg
  unfold Graph.av Graph.cells at hright
  cases hr : rightR g with
  | false =>
    have e : findR g at' k s = none := by simp [findR, hr]
    rw [hr] at hright
    repeat' (first | (simp (disch := omega) [go_sem, S46, Graph.av, Graph.cells, Node.av, Node.cells, ints, fp, optV, *]) | (omega) | (with_reducible refine Br_dec (fun hp => ?_) (fun hp => ?_)) | (with_reducible refine Br_not ?_) | (with_reducible refine Br_bool (fun hp => ?_) (fun hp => ?_)) | (with_reducible refine bG_dec (fun hp => ?_) (fun hp => ?_)) | (with_reducible refine bG_bool' (fun hp => ?_) (fun hp => ?_)) | (refine bC_v hright ?_) | ((with_reducible refine Go_regD _ _ ?hn ?_); case hn => rfl) | ((with_reducible refine Go_regN _ _ ?hn ?_); case hn => rfl) | (with_reducible refine dE_some ?_ ?_) | (with_reducible refine dN_some ?_ ?_) | (with_reducible refine dN_some' ?_ ?_) | ((with_reducible refine Rd_dG ?hn _ _ _ _ _ ?_); case hn => rfl) | (with_reducible refine dG_dec (fun hp => ?_) (fun hp => ?_)) | (with_reducible refine dG_bool' (fun hp => ?_) (fun hp => ?_)) | (with_reducible refine Rd_nil' ?_))
  | true =>
    rw [hr] at hright
    obtain ⟨-, -, -, hnodes⟩ := right_parts hr
    by_cases c1 : at' < 0
    · have e : findR g at' k s = none := by unfold findR; rw [if_neg]; rintro ⟨_, h⟩; omega
      repeat' (first | (simp (disch := omega) [go_sem, S46, Graph.av, Graph.cells, Node.av, Node.cells, ints, fp, optV, *]) | (omega) | (with_reducible refine Br_dec (fun hp => ?_) (fun hp => ?_)) | (with_reducible refine Br_not ?_) | (with_reducible refine Br_bool (fun hp => ?_) (fun hp => ?_)) | (with_reducible refine bG_dec (fun hp => ?_) (fun hp => ?_)) | (with_reducible refine bG_bool' (fun hp => ?_) (fun hp => ?_)) | (refine bC_v hright ?_) | ((with_reducible refine Go_regD _ _ ?hn ?_); case hn => rfl) | ((with_reducible refine Go_regN _ _ ?hn ?_); case hn => rfl) | (with_reducible refine dE_some ?_ ?_) | (with_reducible refine dN_some ?_ ?_) | (with_reducible refine dN_some' ?_ ?_) | ((with_reducible refine Rd_dG ?hn _ _ _ _ _ ?_); case hn => rfl) | (with_reducible refine dG_dec (fun hp => ?_) (fun hp => ?_)) | (with_reducible refine dG_bool' (fun hp => ?_) (fun hp => ?_)) | (with_reducible refine Rd_nil' ?_))
    by_cases c2 : (g.nodes.length : Int) ≤ at'
    · have e : findR g at' k s = none := by
        have : g.nodes[at'.toNat]? = none := List.getElem?_eq_none (by omega)
        unfold findR; rw [this]; simp
      repeat' (first | (simp (disch := omega) [go_sem, S46, Graph.av, Graph.cells, Node.av, Node.cells, ints, fp, optV, *]) | (omega) | (with_reducible refine Br_dec (fun hp => ?_) (fun hp => ?_)) | (with_reducible refine Br_not ?_) | (with_reducible refine Br_bool (fun hp => ?_) (fun hp => ?_)) | (with_reducible refine bG_dec (fun hp => ?_) (fun hp => ?_)) | (with_reducible refine bG_bool' (fun hp => ?_) (fun hp => ?_)) | (refine bC_v hright ?_) | ((with_reducible refine Go_regD _ _ ?hn ?_); case hn => rfl) | ((with_reducible refine Go_regN _ _ ?hn ?_); case hn => rfl) | (with_reducible refine dE_some ?_ ?_) | (with_reducible refine dN_some ?_ ?_) | (with_reducible refine dN_some' ?_ ?_) | ((with_reducible refine Rd_dG ?hn _ _ _ _ _ ?_); case hn => rfl) | (with_reducible refine dG_dec (fun hp => ?_) (fun hp => ?_)) | (with_reducible refine dG_bool' (fun hp => ?_) (fun hp => ?_)) | (with_reducible refine Rd_nil' ?_))
    have hlt : at'.toNat < g.nodes.length := by omega
    have hmem : g.nodes[at'.toNat] ∈ g.nodes := List.getElem_mem hlt
    by_cases c3 : g.nodes[at'.toNat].kind = 6
    · have e : findR g at' k s = (getA (k, s) (entR g g.nodes[at'.toNat])).map (·.2) := by
        have h0 : 0 ≤ at' := by omega
        simp [findR, hr, h0, hlt, c3]
      have hent := entries_ok g g.nodes[at'.toNat] hg (hg.each _ hmem).2 (isNode_kids (hnodes _ hmem))
      unfold Graph.av Graph.cells Node.av Node.cells ints at hent
      rw [c3] at hent
      rw [e]
      clear hnodes
      cases hget : getA (k, s) (entR g g.nodes[at'.toNat]) with
      | none =>
        repeat' (first | (simp (disch := omega) [go_sem, S46, Graph.av, Graph.cells, Node.av, Node.cells, ints, fp, optV, *]) | (omega) | (with_reducible refine Br_dec (fun hp => ?_) (fun hp => ?_)) | (with_reducible refine Br_not ?_) | (with_reducible refine Br_bool (fun hp => ?_) (fun hp => ?_)) | (with_reducible refine bG_dec (fun hp => ?_) (fun hp => ?_)) | (with_reducible refine bG_bool' (fun hp => ?_) (fun hp => ?_)) | (refine bC_v hright ?_) | (refine dC_spec (hent _) fun v h2 hv => ?_; obtain ⟨M, rfl, m1, m2, m3, m4⟩ := hv; simp only [go_sem] at m1 m4) | ((with_reducible refine Go_regD _ _ ?hn ?_); case hn => rfl) | ((with_reducible refine Go_regN _ _ ?hn ?_); case hn => rfl) | (with_reducible refine dE_some ?_ ?_) | (with_reducible refine dN_some ?_ ?_) | (with_reducible refine dN_some' ?_ ?_) | ((with_reducible refine Rd_dG ?hn _ _ _ _ _ ?_); case hn => rfl) | (with_reducible refine dG_dec (fun hp => ?_) (fun hp => ?_)) | (with_reducible refine dG_bool' (fun hp => ?_) (fun hp => ?_)) | (with_reducible refine Rd_nil' ?_))
      | some y =>
        repeat' (first | (simp (disch := omega) [go_sem, S46, epair, Graph.av, Graph.cells, Node.av, Node.cells, ints, fp, optV, *]) | (omega) | (with_reducible refine Br_dec (fun hp => ?_) (fun hp => ?_)) | (with_reducible refine Br_not ?_) | (with_reducible refine Br_bool (fun hp => ?_) (fun hp => ?_)) | (with_reducible refine bG_dec (fun hp => ?_) (fun hp => ?_)) | (with_reducible refine bG_bool' (fun hp => ?_) (fun hp => ?_)) | (refine bC_v hright ?_) | (refine dC_spec (hent _) fun v h2 hv => ?_; obtain ⟨M, rfl, m1, m2, m3, m4⟩ := hv; simp only [go_sem] at m1 m4) | ((with_reducible refine Go_regD _ _ ?hn ?_); case hn => rfl) | ((with_reducible refine Go_regN _ _ ?hn ?_); case hn => rfl) | (with_reducible refine dE_some ?_ ?_) | (with_reducible refine dN_some ?_ ?_) | (with_reducible refine dN_some' ?_ ?_) | ((with_reducible refine Rd_dG ?hn _ _ _ _ _ ?_); case hn => rfl) | (with_reducible refine dG_dec (fun hp => ?_) (fun hp => ?_)) | (with_reducible refine dG_bool' (fun hp => ?_) (fun hp => ?_)) | (with_reducible refine Rd_nil' ?_))
    · have e : findR g at' k s = none := by
        have h0 : 0 ≤ at' := by omega
        simp [findR, hr, h0, hlt, c3]
      repeat' (first | (simp (disch := omega) [go_sem, S46, Graph.av, Graph.cells, Node.av, Node.cells, ints, fp, optV, *]) | (omega) | (with_reducible refine Br_dec (fun hp => ?_) (fun hp => ?_)) | (with_reducible refine Br_not ?_) | (with_reducible refine Br_bool (fun hp => ?_) (fun hp => ?_)) | (with_reducible refine bG_dec (fun hp => ?_) (fun hp => ?_)) | (with_reducible refine bG_bool' (fun hp => ?_) (fun hp => ?_)) | (refine bC_v hright ?_) | ((with_reducible refine Go_regD _ _ ?hn ?_); case hn => rfl) | ((with_reducible refine Go_regN _ _ ?hn ?_); case hn => rfl) | (with_reducible refine dE_some ?_ ?_) | (with_reducible refine dN_some ?_ ?_) | (with_reducible refine dN_some' ?_ ?_) | ((with_reducible refine Rd_dG ?hn _ _ _ _ _ ?_); case hn => rfl) | (with_reducible refine dG_dec (fun hp => ?_) (fun hp => ?_)) | (with_reducible refine dG_bool' (fun hp => ?_) (fun hp => ?_)) | (with_reducible refine Rd_nil' ?_))
end Go.Eng.Tryz
