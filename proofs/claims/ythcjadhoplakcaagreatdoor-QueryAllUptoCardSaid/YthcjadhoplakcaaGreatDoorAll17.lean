/- The law QueryAll of package grommetlaw24 answers true and turns no argument, for all arguments that are together of bulk at most 1048576; condition: the listed package variables start as the program's text lays them. (part 17.) -/
import Derived.Test.YthcjadhoplakcaaGreatDoorAll16
set_option linter.unusedSimpArgs false
set_option linter.unusedVariables false
set_option maxRecDepth 20000
set_option maxHeartbeats 1000000
namespace Go.Eng.Tryz
open Go.Eng Go.Proofs Go.RowKit
def sumN (l : List Node) : Nat := (l.map fun x => min x.kids.length 500 + min x.text.length 2000).sum
def largeR (g : Graph) : Bool := (decide (40 < g.nodes.length) && decide (g.nodes.length ≤ 4096)) || decide (150 < sumN (g.nodes.take 40))
theorem sumN_snoc (l : List Node) (x : Node) : sumN (l ++ [x]) = sumN l + (min x.kids.length 500 + min x.text.length 2000) := by simp [sumN]
theorem evMin_int (k : IntKind) (a b : Int) : evMin (.int k a) (.int k b) = some (.int k (min a b)) := by
  unfold evMin
  simp only [if_true]
  congr 2
  split <;> omega
theorem evQ_mn2 {U : List (TypeId × TypeId)} {G : Nat → AV} {e : Env} {h : H} (x y : X) (k : IntKind) (a b : Int) (hx : x.ev G e = .int k a) (hy : y.ev G e = .int k b) : evQ U G (.mn [x, y]) e h = some (.int k (min a b)) := by
  simp [evQ, evs, hx, hy, foldO, evMin_int]
theorem large_ok (g : Graph) (hgn : g.nodes.length < 1073741824) : Puv 14 [g.av] (.bool (largeR g)) := by
  refine pv ok14 (by simp [AV.clL, cl_graph]) rfl fun h => ?_
  unfold largeR
  have hmn : min (g.nodes.length : Int) 40 = ((min g.nodes.length 40 : Nat) : Int) := by omega
  have hmn2 : (min (g.nodes.length : Int) 40).toNat = min g.nodes.length 40 := by omega
  have htk : g.nodes.take (min g.nodes.length 40) = g.nodes.take 40 := by
    rw [List.take_eq_take_iff]; omega
  have htl : (g.nodes.take 40).length ≤ 40 := by simp; omega
  obtain ⟨ns, hns⟩ : ∃ ns, g.nodes.take 40 = ns := ⟨_, rfl⟩
  repeat' (first | (simp (disch := omega) [go_sem, S14, Graph.av, Graph.cells, evQ_mn2, *]) | (omega) | (with_reducible refine Br_dec (fun hp => ?_) (fun hp => ?_)) | (with_reducible refine Br_not ?_) | (with_reducible refine Br_bool (fun hp => ?_) (fun hp => ?_)) | (with_reducible refine bG_dec (fun hp => ?_) (fun hp => ?_)) | (with_reducible refine bG_bool' (fun hp => ?_) (fun hp => ?_)) | ((with_reducible refine Go_regD _ _ ?hn ?_); case hn => rfl) | ((with_reducible refine Go_regN _ _ ?hn ?_); case hn => rfl) | (with_reducible refine dE_some ?_ ?_) | (with_reducible refine dN_some ?_ ?_) | (with_reducible refine dN_some' ?_ ?_) | ((with_reducible refine Rd_dG ?hn _ _ _ _ _ ?_); case hn => rfl) | (with_reducible refine dG_dec (fun hp => ?_) (fun hp => ?_)) | (with_reducible refine dG_bool' (fun hp => ?_) (fun hp => ?_)) | (with_reducible refine Rd_nil' ?_))
  have hnl : min g.nodes.length 40 = ns.length := by rw [← hns]; simp [Nat.min_comm]
  have hnm : List.take (min g.nodes.length 40) (List.map Node.av g.nodes) = ns.map Node.av := by rw [← List.map_take, htk, hns]
  rw [hnm, hnl]
  rw [hns] at htl
  clear hmn hmn2 htk hnl hnm
  refine Go_loop (fun m e h1 => ∃ j : Nat, m = ns.length - j ∧ j ≤ ns.length ∧ e.get 14 = .int .i64 j ∧ e.get 13 = .int .i64 ns.length ∧ e.get 12 = .fsl false 3 (ns.map Node.av) ∧ e.get 3 = .int .i64 (sumN (ns.take j)) ∧ e.get 1 = .ptr h.next 0 ∧ h.next < h1.next ∧ h1.get h.next = some (.cells g.cells 24 (some 0))) (n := ns.length) ?_ ?_
  · refine ⟨0, ?_⟩
    simp (disch := omega) [go_sem, Graph.cells, sumN]
  · rintro m e h1 ⟨j, rfl, hj, q14, q13, q12, q3, q1, hn1, hgg⟩ Q hQ
    have hsb : ∀ l : List Node, sumN l ≤ 2500 * l.length := fun l => by
      induction l with
      | nil => simp [sumN]
      | cons x l ih => simp only [sumN, List.map_cons, List.sum_cons, List.length_cons] at ih ⊢; omega
    have hs0 := hsb (ns.take j)
    have hs1 : (ns.take j).length ≤ 40 := by simp; omega
    unfold Graph.cells at hgg
    by_cases hlt : j < ns.length
    · have hx : ns[j]? = some ns[j] := List.getElem?_eq_getElem hlt
      have hQ' : ∀ e' h', e'.get 14 = .int .i64 ((j : Int) + 1) → e'.get 13 = .int .i64 ns.length → e'.get 12 = .fsl false 3 (ns.map Node.av) → e'.get 3 = .int .i64 ((sumN (ns.take j) : Int) + (min (ns[j].kids.length : Int) 500 + min (ns[j].text.length : Int) 2000)) → e'.get 1 = .ptr h.next 0 → h1.next ≤ h'.next → h'.get h.next = h1.get h.next → Q e' h' :=
        fun e' h' r1 r2 r3 r4 r5 r6 r7 => hQ (ns.length - (j + 1)) e' h' (by omega) ⟨j + 1, rfl, by omega, r1, r2, r3, by rw [r4, take_snoc ns j hlt, sumN_snoc]; congr 1; omega, r5, by omega, by rw [r7]; unfold Graph.cells; exact hgg⟩
      clear hQ
      generalize sumN (ns.take j) = sj at *
      repeat' (first | (simp (disch := omega) [go_sem, S14, Node.av, Node.cells, ints, evQ_mn2, *]) | (omega) | (with_reducible refine Br_dec (fun hp => ?_) (fun hp => ?_)) | (with_reducible refine Br_not ?_) | (with_reducible refine Br_bool (fun hp => ?_) (fun hp => ?_)) | (with_reducible refine bG_dec (fun hp => ?_) (fun hp => ?_)) | (with_reducible refine bG_bool' (fun hp => ?_) (fun hp => ?_)) | ((with_reducible refine Go_regD _ _ ?hn ?_); case hn => rfl) | ((with_reducible refine Go_regN _ _ ?hn ?_); case hn => rfl) | (with_reducible refine dE_some ?_ ?_) | (with_reducible refine dN_some ?_ ?_) | (with_reducible refine dN_some' ?_ ?_) | ((with_reducible refine Rd_dG ?hn _ _ _ _ _ ?_); case hn => rfl) | (with_reducible refine dG_dec (fun hp => ?_) (fun hp => ?_)) | (with_reducible refine dG_bool' (fun hp => ?_) (fun hp => ?_)) | (with_reducible refine Rd_nil' ?_))
      refine hQ' _ _ ?_ ?_ ?_ ?_ ?_ ?_ ?_ <;> first | (simp (disch := omega) [go_sem, *]; done) | (simp [go_sem]; omega)
    · rw [List.take_of_length_le (by omega)] at q3 hs0
      clear hQ
      have hs2 : sumN ns ≤ 100000 := by omega
      generalize sumN ns = sj at *
      repeat' (first | (simp (disch := omega) [go_sem, S14, Node.av, Node.cells, ints, evQ_mn2, *]) | (omega) | (with_reducible refine Br_dec (fun hp => ?_) (fun hp => ?_)) | (with_reducible refine Br_not ?_) | (with_reducible refine Br_bool (fun hp => ?_) (fun hp => ?_)) | (with_reducible refine bG_dec (fun hp => ?_) (fun hp => ?_)) | (with_reducible refine bG_bool' (fun hp => ?_) (fun hp => ?_)) | ((with_reducible refine Go_regD _ _ ?hn ?_); case hn => rfl) | ((with_reducible refine Go_regN _ _ ?hn ?_); case hn => rfl) | (with_reducible refine dE_some ?_ ?_) | (with_reducible refine dN_some ?_ ?_) | (with_reducible refine dN_some' ?_ ?_) | ((with_reducible refine Rd_dG ?hn _ _ _ _ _ ?_); case hn => rfl) | (with_reducible refine dG_dec (fun hp => ?_) (fun hp => ?_)) | (with_reducible refine dG_bool' (fun hp => ?_) (fun hp => ?_)) | (with_reducible refine Rd_nil' ?_))
      all_goals (rw [Bool.eq_iff_iff]; simp; omega)
/-! ### long -/
def sumP (l : List Part) : Nat := (l.map fun x => min x.text.length 5000 + min x.value.length 5000).sum
def deepP (l : List Part) : Nat := (l.map fun x => if x.kind = 3 then 1 else 0).sum
theorem sumP_snoc (l : List Part) (x : Part) : sumP (l ++ [x]) = sumP l + (min x.text.length 5000 + min x.value.length 5000) := by simp [sumP]
theorem deepP_snoc (l : List Part) (x : Part) : deepP (l ++ [x]) = deepP l + (if x.kind = 3 then 1 else 0) := by simp [deepP]
def longR (l : List Part) : Bool := decide (40 < l.length) || decide (20000 < sumP (l.take 40)) || (decide (3 < deepP (l.take 40)) && decide (l.length ≤ 32))
theorem long_ok (l : List Part) (hll : l.length < 1073741824) : Puv 15 [parts l] (.bool (longR l)) := by
  refine pv ok15 (by simp [AV.clL, cl_parts]) rfl fun h => ?_
  unfold longR
  have hmn : min (l.length : Int) 40 = ((min l.length 40 : Nat) : Int) := by omega
  have hmn2 : (min (l.length : Int) 40).toNat = min l.length 40 := by omega
  have htk : l.take (min l.length 40) = l.take 40 := by
    rw [List.take_eq_take_iff]; omega
  have htl : (l.take 40).length ≤ 40 := by simp; omega
  obtain ⟨ns, hns⟩ : ∃ ns, l.take 40 = ns := ⟨_, rfl⟩
  repeat' (first | (simp (disch := omega) [go_sem, S15, parts, evQ_mn2, *]) | (omega) | (with_reducible refine Br_dec (fun hp => ?_) (fun hp => ?_)) | (with_reducible refine Br_not ?_) | (with_reducible refine Br_bool (fun hp => ?_) (fun hp => ?_)) | (with_reducible refine bG_dec (fun hp => ?_) (fun hp => ?_)) | (with_reducible refine bG_bool' (fun hp => ?_) (fun hp => ?_)) | ((with_reducible refine Go_regD _ _ ?hn ?_); case hn => rfl) | ((with_reducible refine Go_regN _ _ ?hn ?_); case hn => rfl) | (with_reducible refine dE_some ?_ ?_) | (with_reducible refine dN_some ?_ ?_) | (with_reducible refine dN_some' ?_ ?_) | ((with_reducible refine Rd_dG ?hn _ _ _ _ _ ?_); case hn => rfl) | (with_reducible refine dG_dec (fun hp => ?_) (fun hp => ?_)) | (with_reducible refine dG_bool' (fun hp => ?_) (fun hp => ?_)) | (with_reducible refine Rd_nil' ?_))
  have hnl : min l.length 40 = ns.length := by rw [← hns]; simp [Nat.min_comm]
  have hnm : List.take (min l.length 40) (List.map Part.av l) = ns.map Part.av := by rw [← List.map_take, htk, hns]
  rw [hnm, hnl]
  rw [hns] at htl
  clear hmn hmn2 htk hnl hnm
  refine Go_loop (fun m e h1 => ∃ j : Nat, m = ns.length - j ∧ j ≤ ns.length ∧ e.get 13 = .int .i64 j ∧ e.get 12 = .int .i64 ns.length ∧ e.get 11 = .fsl false 4 (ns.map Part.av) ∧ e.get 3 = .int .i64 (sumP (ns.take j)) ∧ e.get 4 = .int .i64 (deepP (ns.take j)) ∧ e.get 0 = .fsl false 4 (l.map Part.av)) (n := ns.length) ?_ ?_
  · refine ⟨0, ?_⟩
    simp (disch := omega) [go_sem, sumP, deepP]
  · rintro m e h1 ⟨j, rfl, hj, q13, q12, q11, q3, q4, q0⟩ Q hQ
    have hsb : ∀ l : List Part, sumP l ≤ 10000 * l.length := fun l => by
      induction l with
      | nil => simp [sumP]
      | cons x l ih => simp only [sumP, List.map_cons, List.sum_cons, List.length_cons] at ih ⊢; omega
    have hdb : ∀ l : List Part, deepP l ≤ l.length := fun l => by
      induction l with
      | nil => simp [deepP]
      | cons x l ih => simp only [deepP, List.map_cons, List.sum_cons, List.length_cons] at ih ⊢; split <;> omega
    have hs0 := hsb (ns.take j)
    have hd0 := hdb (ns.take j)
    have hs1 : (ns.take j).length ≤ 40 := by simp; omega
    by_cases hlt : j < ns.length
    · have hx : ns[j]? = some ns[j] := List.getElem?_eq_getElem hlt
      have hQ' : ∀ e' h', e'.get 13 = .int .i64 ((j : Int) + 1) → e'.get 12 = .int .i64 ns.length → e'.get 11 = .fsl false 4 (ns.map Part.av) → e'.get 3 = .int .i64 ((sumP (ns.take j) : Int) + (min (ns[j].text.length : Int) 5000 + min (ns[j].value.length : Int) 5000)) → e'.get 4 = .int .i64 ((deepP (ns.take j) : Int) + (if ns[j].kind = 3 then 1 else 0)) → e'.get 0 = .fsl false 4 (l.map Part.av) → Q e' h' :=
        fun e' h' r1 r2 r3 r4 r5 r6 => hQ (ns.length - (j + 1)) e' h' (by omega) ⟨j + 1, rfl, by omega, r1, r2, r3, by rw [r4, take_snoc ns j hlt, sumP_snoc]; congr 1; omega, by rw [r5, take_snoc ns j hlt, deepP_snoc]; congr 1; split <;> omega, r6⟩
      clear hQ
      generalize sumP (ns.take j) = sj at *
      generalize deepP (ns.take j) = dj at *
      by_cases hk : ns[j].kind = 3
      · rw [if_pos hk] at hQ'
        repeat' (first | (simp (disch := omega) [go_sem, S15, Part.av, Part.cells, evQ_mn2, *]) | (omega) | (with_reducible refine Br_dec (fun hp => ?_) (fun hp => ?_)) | (with_reducible refine Br_not ?_) | (with_reducible refine Br_bool (fun hp => ?_) (fun hp => ?_)) | (with_reducible refine bG_dec (fun hp => ?_) (fun hp => ?_)) | (with_reducible refine bG_bool' (fun hp => ?_) (fun hp => ?_)) | ((with_reducible refine Go_regD _ _ ?hn ?_); case hn => rfl) | ((with_reducible refine Go_regN _ _ ?hn ?_); case hn => rfl) | (with_reducible refine dE_some ?_ ?_) | (with_reducible refine dN_some ?_ ?_) | (with_reducible refine dN_some' ?_ ?_) | ((with_reducible refine Rd_dG ?hn _ _ _ _ _ ?_); case hn => rfl) | (with_reducible refine dG_dec (fun hp => ?_) (fun hp => ?_)) | (with_reducible refine dG_bool' (fun hp => ?_) (fun hp => ?_)) | (with_reducible refine Rd_nil' ?_))
        refine hQ' _ _ ?_ ?_ ?_ ?_ ?_ ?_ <;> first | (simp (disch := omega) [go_sem, *]; done) | (simp [go_sem]; omega)
      · rw [if_neg hk] at hQ'
        repeat' (first | (simp (disch := omega) [go_sem, S15, Part.av, Part.cells, evQ_mn2, *]) | (omega) | (with_reducible refine Br_dec (fun hp => ?_) (fun hp => ?_)) | (with_reducible refine Br_not ?_) | (with_reducible refine Br_bool (fun hp => ?_) (fun hp => ?_)) | (with_reducible refine bG_dec (fun hp => ?_) (fun hp => ?_)) | (with_reducible refine bG_bool' (fun hp => ?_) (fun hp => ?_)) | ((with_reducible refine Go_regD _ _ ?hn ?_); case hn => rfl) | ((with_reducible refine Go_regN _ _ ?hn ?_); case hn => rfl) | (with_reducible refine dE_some ?_ ?_) | (with_reducible refine dN_some ?_ ?_) | (with_reducible refine dN_some' ?_ ?_) | ((with_reducible refine Rd_dG ?hn _ _ _ _ _ ?_); case hn => rfl) | (with_reducible refine dG_dec (fun hp => ?_) (fun hp => ?_)) | (with_reducible refine dG_bool' (fun hp => ?_) (fun hp => ?_)) | (with_reducible refine Rd_nil' ?_))
        refine hQ' _ _ ?_ ?_ ?_ ?_ ?_ ?_ <;> first | (simp (disch := omega) [go_sem, *]; done) | (simp [go_sem]; omega)
    · rw [List.take_of_length_le (by omega)] at q3 q4 hs0 hd0
      clear hQ
      have hs2 : sumP ns ≤ 400000 := by omega
      generalize sumP ns = sj at *
      generalize deepP ns = dj at *
      repeat' (first | (simp (disch := omega) [go_sem, S15, evQ_mn2, *]) | (omega) | (with_reducible refine Br_dec (fun hp => ?_) (fun hp => ?_)) | (with_reducible refine Br_not ?_) | (with_reducible refine Br_bool (fun hp => ?_) (fun hp => ?_)) | (with_reducible refine bG_dec (fun hp => ?_) (fun hp => ?_)) | (with_reducible refine bG_bool' (fun hp => ?_) (fun hp => ?_)) | ((with_reducible refine Go_regD _ _ ?hn ?_); case hn => rfl) | ((with_reducible refine Go_regN _ _ ?hn ?_); case hn => rfl) | (with_reducible refine dE_some ?_ ?_) | (with_reducible refine dN_some ?_ ?_) | (with_reducible refine dN_some' ?_ ?_) | ((with_reducible refine Rd_dG ?hn _ _ _ _ _ ?_); case hn => rfl) | (with_reducible refine dG_dec (fun hp => ?_) (fun hp => ?_)) | (with_reducible refine dG_bool' (fun hp => ?_) (fun hp => ?_)) | (with_reducible refine Rd_nil' ?_))
      all_goals (rw [Bool.eq_iff_iff]; simp; omega)
/-! ### theirs -/
theorem okE_part (x : Part) : okE 4 x.av := okE_agg rfl (by decide) (by simp [Part.cells, AV.leaf])
theorem closed_parts {p : Nat → Bool} {h : H} (d : Nat) (l : List Part) : fzL p h (d + 2) ((l.map Part.av).flatMap AV.cells) = some ((l.map Part.av).flatMap AV.cells) := by
  refine fzL_of fun c hc => ?_
  obtain ⟨x, hx, hcx⟩ := List.mem_flatMap.1 hc
  obtain ⟨y, _, rfl⟩ := List.mem_map.1 hx
  simp only [Part.av, AV.cells, Part.cells, List.mem_cons, List.not_mem_nil, or_false] at hcx
  rcases hcx with rfl | rfl | rfl | rfl <;> exact fz_closed _ _ trivial
theorem theirs_ok (l : List Part) (hl : l.length < 1073741824) : Pur 19 [parts l] fun v => v = parts l := by
  refine pq ok19 (by simp [AV.clL, cl_parts]) rfl fun h => ?_
  unfold parts
  repeat' (first | (simp (disch := omega) [go_sem, S19, *]) | (omega) | (with_reducible refine Br_dec (fun hp => ?_) (fun hp => ?_)) | (with_reducible refine Br_not ?_) | (with_reducible refine Br_bool (fun hp => ?_) (fun hp => ?_)) | (with_reducible refine bG_dec (fun hp => ?_) (fun hp => ?_)) | (with_reducible refine bG_bool' (fun hp => ?_) (fun hp => ?_)) | ((with_reducible refine Go_regD _ _ ?hn ?_); case hn => rfl) | ((with_reducible refine Go_regN _ _ ?hn ?_); case hn => rfl) | (with_reducible refine dE_some ?_ ?_) | (with_reducible refine dN_some ?_ ?_) | (with_reducible refine dN_some' ?_ ?_) | ((with_reducible refine Rd_dG ?hn _ _ _ _ _ ?_); case hn => rfl) | (with_reducible refine dG_dec (fun hp => ?_) (fun hp => ?_)) | (with_reducible refine dG_bool' (fun hp => ?_) (fun hp => ?_)) | (with_reducible refine Rd_nil' ?_))
  refine Go_loop (fun m e h1 => ∃ j : Nat, ∃ v : AV, m = l.length - j ∧ j ≤ l.length ∧ e.get 8 = .int .i64 j ∧ e.get 7 = .int .i64 l.length ∧ e.get 6 = .fsl false 4 (l.map Part.av) ∧ e.get 3 = v ∧ h.next ≤ h1.next ∧ Els h.next h1 v 4 45 ((l.take j).map Part.av)) (n := l.length) ?_ ?_
  · refine ⟨0, .nils, ?_⟩
    simp (disch := omega) [go_sem]
    exact Els.nil _ _ _ _
  · rintro m e h1 ⟨j, v, rfl, hj, q8, q7, q6, q3, hn1, hs⟩ Q hQ
    by_cases hlt : j < l.length
    · have hx : l[j]? = some l[j] := List.getElem?_eq_getElem hlt
      have hlt2 : ((l.take j).map Part.av).length ≤ j := by simp; omega
      have hQ' : ∀ e' h' v', e'.get 8 = .int .i64 ((j : Int) + 1) → e'.get 7 = .int .i64 l.length → e'.get 6 = .fsl false 4 (l.map Part.av) → e'.get 3 = v' → h.next ≤ h'.next → Els h.next h' v' 4 45 ((l.take j).map Part.av ++ [l[j].av]) → Q e' h' :=
        fun e' h' v' r1 r2 r3 r4 r5 r6 => hQ (l.length - (j + 1)) e' h' (by omega) ⟨j + 1, v', rfl, by omega, r1, r2, r3, r4, r5, by rw [take_snoc l j hlt, List.map_append]; exact r6⟩
      clear hQ
      repeat' (first | (simp (disch := omega) [go_sem, S19, Part.av, Part.cells, *]) | (omega) | (with_reducible refine Br_dec (fun hp => ?_) (fun hp => ?_)) | (with_reducible refine Br_not ?_) | (with_reducible refine Br_bool (fun hp => ?_) (fun hp => ?_)) | (with_reducible refine bG_dec (fun hp => ?_) (fun hp => ?_)) | (with_reducible refine bG_bool' (fun hp => ?_) (fun hp => ?_)) | (refine bE_app (B := h.next) (x := l[j].av) (hs.same (by simp [go_sem] <;> omega) fun k h1 h2 => by simp (disch := omega) [go_sem]) (by simp [go_sem] <;> omega) (okE_part _) rfl (by omega) fun v' h3 n1 n2 n3 => ?_; simp only [go_sem] at n1) | ((with_reducible refine Go_regD _ _ ?hn ?_); case hn => rfl) | ((with_reducible refine Go_regN _ _ ?hn ?_); case hn => rfl) | (with_reducible refine dE_some ?_ ?_) | (with_reducible refine dN_some ?_ ?_) | (with_reducible refine dN_some' ?_ ?_) | ((with_reducible refine Rd_dG ?hn _ _ _ _ _ ?_); case hn => rfl) | (with_reducible refine dG_dec (fun hp => ?_) (fun hp => ?_)) | (with_reducible refine dG_bool' (fun hp => ?_) (fun hp => ?_)) | (with_reducible refine Rd_nil' ?_))
      refine hQ' _ _ v' ?_ ?_ ?_ ?_ (by omega) n3 <;> simp (disch := omega) [go_sem, *]
    · rw [List.take_of_length_le (by omega)] at hs
      clear hQ
      repeat' (first | (simp (disch := omega) [go_sem, S19, *]) | (omega) | (with_reducible refine Br_dec (fun hp => ?_) (fun hp => ?_)) | (with_reducible refine Br_not ?_) | (with_reducible refine Br_bool (fun hp => ?_) (fun hp => ?_)) | (with_reducible refine bG_dec (fun hp => ?_) (fun hp => ?_)) | (with_reducible refine bG_bool' (fun hp => ?_) (fun hp => ?_)) | ((with_reducible refine Go_regD _ _ ?hn ?_); case hn => rfl) | ((with_reducible refine Go_regN _ _ ?hn ?_); case hn => rfl) | (with_reducible refine dE_some ?_ ?_) | (with_reducible refine dN_some ?_ ?_) | (with_reducible refine dN_some' ?_ ?_) | ((with_reducible refine Rd_dG ?hn _ _ _ _ _ ?_); case hn => rfl) | (with_reducible refine dG_dec (fun hp => ?_) (fun hp => ?_)) | (with_reducible refine dG_bool' (fun hp => ?_) (fun hp => ?_)) | (with_reducible refine Rd_nil' ?_))
      exact fin_one (hs.fz (fun _ _ => rfl) (closed_parts _ _)) rfl
end Go.Eng.Tryz
set_option maxRecDepth 20000
set_option maxHeartbeats 1000000
namespace Go.Eng.Tryz
open Go.Eng Go.Proofs Go.RowKit
section
variable {a b : List Part} {i j : Nat}
theorem reach_stepA2 (hA : i < a.length) (hk : a[i].kind = 3) (hB : j < b.length) (h : reachAt a b i (j + 1) = true) : reachAt a b i j = true := by
  rw [reach_deepA hA hk hB, h, Bool.or_true]
theorem reach_stepA (hA : i < a.length) (hk : a[i].kind = 3) (h : reachAt a b (i + 1) j = true) : reachAt a b i j = true := by
  by_cases hB : j < b.length
  · rw [reach_deepA hA hk hB, h, Bool.true_or]
  · rw [reach_deepA' hA hk hB, h]
theorem reach_stepB (hB : j < b.length) (hk2 : b[j].kind = 3) (h : reachAt a b i (j + 1) = true) : reachAt a b i j = true := by
  by_cases hA : i < a.length
  · by_cases hk : a[i].kind = 3
    · exact reach_stepA2 hA hk hB h
    · rw [reach_deepB hA hk hB hk2, h, Bool.true_or]
  · rw [reach_deepB' hA hB hk2, h]
theorem reach_stepB2 (hA : i < a.length) (hB : j < b.length) (hk2 : b[j].kind = 3) (h : reachAt a b (i + 1) j = true) : reachAt a b i j = true := by
  by_cases hk : a[i].kind = 3
  · exact reach_stepA hA hk h
  · rw [reach_deepB hA hk hB hk2, h, Bool.or_true]
end
theorem one_meets {g : Graph} {x y : Part} {w : Step} {c : Int} (h1 : oneR g x w c = true) (h2 : oneR g y w c = true) : meetsR x y = true := by
  have k1 : w.isAt = decide (4 ≤ x.kind) := by
    apply Classical.byContradiction; intro hc
    unfold oneR at h1; rw [if_pos hc] at h1; cases h1
  have k2 : w.isAt = decide (4 ≤ y.kind) := by
    apply Classical.byContradiction; intro hc
    unfold oneR at h2; rw [if_pos hc] at h2; cases h2
  unfold meetsR
  split
  · rfl
  · rw [if_neg (fun hc => hc (k1.symm.trans k2))]
    split
    · rename_i h3
      unfold oneR at h1 h2
      rw [if_neg (fun hc => hc k1), if_pos h3.2] at h1
      rw [if_neg (fun hc => hc k2), if_pos (h3.1.symm.trans h3.2)] at h2
      simp only [decide_eq_true_eq] at h1 h2 ⊢
      rw [← h1, ← h2]
    · split
      · rename_i _ h3
        unfold oneR at h1 h2
        rw [if_neg (fun hc => hc k1), if_neg (by omega), if_pos h3.2] at h1
        rw [if_neg (fun hc => hc k2), if_neg (by omega), if_pos (h3.1.symm.trans h3.2)] at h2
        simp only [decide_eq_true_eq] at h1 h2 ⊢
        rw [← h1, ← h2]
      · rfl
theorem meets_self (x : Part) : meetsR x x = true := by
  unfold meetsR
  split
  · rfl
  · rw [if_neg (fun hc => hc rfl)]
    split
    · simp
    · split <;> simp
theorem reach_self (a : List Part) : ∀ (d i : Nat), a.length - i = d → reachAt a a i i = true
  | 0, i, h => reach_end (by omega) (by omega)
  | d + 1, i, h => by
    have hi : i < a.length := by omega
    have ih := reach_self a d (i + 1) (by omega)
    by_cases hk : a[i].kind = 3
    · exact reach_stepA hi hk (reach_stepB hi hk ih)
    · rw [reach_both hi hk hi hk, meets_self, ih]; rfl
def Fwd (a b : List Part) (i j : Nat) : Prop := reachAt a b i j = true → reachAt a b 0 0 = true
theorem free_pair {a b : List Part} {A B : Nat} (h : ∀ i j, A.testBit i = true → B.testBit j = true → Fwd a b i j) : ∀ i j, (freeR a A).testBit i = true → (freeR b B).testBit j = true → Fwd a b i j := by
  have h1 : ∀ j, B.testBit j = true → ∀ i, (freeR a A).testBit i = true → Fwd a b i j := fun j hj =>
    freeR_inv (fun i => Fwd a b i j) a A (fun i hi => h i j hi hj) (fun i hi hp hk hr => hp (reach_stepA hi hk hr))
  exact fun i j hi hj => freeR_inv (fun j => Fwd a b i j) b B (fun j hj => h1 j hj i hi) (fun j hj hp hk hr => hp (reach_stepB hj hk hr)) j hj
theorem step_pair {g : Graph} {a b : List Part} {A B : Nat} {w : Step} {c : Int} (h : ∀ i j, A.testBit i = true → B.testBit j = true → Fwd a b i j) : ∀ i j, (stepR g a A w c).testBit i = true → (stepR g b B w c).testBit j = true → Fwd a b i j := by
  refine free_pair fun i j hi hj => ?_
  refine nextF_inv (fun i => ∀ j, (nextF (fun x => oneR g x w c) B b 0 0).testBit j = true → Fwd a b i j) _ A a 0 0 (fun m hm => by simp at hm) (fun i hi hA => ?_) i hi j hj
  rw [Nat.zero_add] at hA ⊢
  refine ⟨fun hk j hj => ?_, fun hk h1 j hj => ?_⟩
  · refine nextF_inv (fun j => Fwd a b i j) _ B b 0 0 (fun m hm => by simp at hm) (fun j hj hB => ?_) j hj
    rw [Nat.zero_add] at hB ⊢
    exact ⟨fun _ => h i j hA hB, fun hk2 h2 hr => h i j hA hB (reach_stepA2 hi hk hj hr)⟩
  · refine nextF_inv (fun j => Fwd a b (i + 1) j) _ B b 0 0 (fun m hm => by simp at hm) (fun j hj hB => ?_) j hj
    rw [Nat.zero_add] at hB ⊢
    exact ⟨fun hk2 hr => h i j hA hB (reach_stepB2 hi hj hk2 hr), fun hk2 h2 hr => h i j hA hB (by rw [reach_both hi hk hj hk2, one_meets h1 h2, hr]; rfl)⟩
theorem go_pair (g : Graph) (a b : List Part) (way : List Step) : ∀ (k : Nat) (i j : Nat), (goR g a way k).testBit i = true → (goR g b way k).testBit j = true → Fwd a b i j
  | 0 => by
    simp only [goR]
    refine free_pair fun i j hi hj => ?_
    have h1 : ∀ i, (1 : Nat).testBit i = true → i = 0 := fun i hi => by
      rw [show (1 : Nat) = 2 ^ 0 from rfl, Nat.testBit_two_pow] at hi
      have : 0 = i := by simpa using hi
      omega
    rw [h1 i hi, h1 j hj]
    exact fun h => h
  | k + 1 => by
    simp only [goR]
    split
    · exact step_pair (go_pair g a b way k)
    · exact go_pair g a b way k
theorem meet_of {g : Graph} {a b : List Part} {way : List Step} (h1 : (goR g a way way.length).testBit a.length = true) (h2 : (goR g b way way.length).testBit b.length = true) : reachAt a b 0 0 = true :=
  go_pair g a b way _ _ _ h1 h2 (reach_end (by omega) (by omega))
/-! ### what is found -/
def startF (g : Graph) (l : List Part) : FS := toF g l 64 g.root [] (freeR l 1) (List.replicate g.nodes.length false) (4096, [])
def foundR (g : Graph) (l : List Part) : List (List Step) × Int :=
  if fmtE l ≠ 0 ∨ rightR g = false then ([], 1) else if (startF g l).1 < 0 then ([], 5) else ((startF g l).2, 0)
def allP (g : Graph) : List (List Step) := pathsF g 64 g.root [] (List.replicate g.nodes.length false)
theorem found_ok {g : Graph} {l : List Part} (h : (foundR g l).2 = 0) : fmtE l = 0 ∧ rightR g = true ∧ 0 ≤ (startF g l).1 ∧ (foundR g l).1 = (startF g l).2 := by
  unfold foundR at h ⊢
  split at h
  · cases h
  · rename_i h1
    split at h
    · cases h
    · rename_i h2
      refine ⟨Classical.byContradiction fun hc => h1 (.inl hc), ?_, by omega, ?_⟩
      · cases hr : rightR g with
        | true => rfl
        | false => exact absurd (.inr hr) h1
      · rw [if_neg h1, if_neg h2]
theorem topF_sum (l : List Part) (way : List Step) (bits : Nat) (s : FS) : ((topF l way bits s).2.length : Int) + (topF l way bits s).1 ≤ s.2.length + s.1 := by
  unfold topF
  simp only
  split
  · simp only [List.length_append, List.length_singleton]; omega
  · omega
theorem kidsF_sum {rec : Int → List Step → Nat → FS → FS} (hrec : ∀ k w b s, ((rec k w b s).2.length : Int) + (rec k w b s).1 ≤ s.2.length + s.1) (g : Graph) (l : List Part) (n : Node) (way : List Step) (bits : Nat) (met : List Bool) : ∀ (ks : List Int) (i : Nat) (s : FS), ((kidsF rec g l n way bits met ks i s).2.length : Int) + (kidsF rec g l n way bits met ks i s).1 ≤ s.2.length + s.1
  | [], _, s => Int.le_refl _
  | k :: ks, i, s => by
    simp only [kidsF]
    refine Int.le_trans (kidsF_sum hrec g l n way bits met ks (i + 1) _) ?_
    unfold kidF
    split
    · exact Int.le_refl _
    · split
      · exact hrec _ _ _ _
      · exact Int.le_refl _
theorem toF_sum (g : Graph) (l : List Part) : ∀ (f : Nat) (a : Int) (way : List Step) (bits : Nat) (met : List Bool) (s : FS), ((toF g l f a way bits met s).2.length : Int) + (toF g l f a way bits met s).1 ≤ s.2.length + s.1
  | 0, a, way, bits, met, s => topF_sum l way bits s
  | f + 1, a, way, bits, met, s => by
    simp only [toF]
    split
    · exact topF_sum l way bits s
    · split
      · exact topF_sum l way bits s
      · exact Int.le_trans (kidsF_sum (fun k w b s => toF_sum g l f k w b _ s) _ _ _ _ _ _ _ _ _) (topF_sum l way bits s)
theorem found_len (g : Graph) (l : List Part) : (foundR g l).1.length ≤ 4096 := by
  unfold foundR
  split
  · simp
  · split
    · simp
    · rename_i h
      have := toF_sum g l 64 g.root [] (freeR l 1) (List.replicate g.nodes.length false) (4096, [])
      have e : toF g l 64 g.root [] (freeR l 1) (List.replicate g.nodes.length false) (4096, []) = startF g l := rfl
      rw [e] at this
      simp only [List.length_nil] at this ⊢
      omega
theorem not_large {g : Graph} (hl : largeR g = false) (hr : rightR g = true) : g.nodes.length ≤ 40 ∧ ∀ n ∈ g.nodes, n.kids.length ≤ 150 := by
  obtain ⟨h0, -⟩ := right_parts hr
  unfold largeR at hl
  simp only [Bool.or_eq_false_iff, Bool.and_eq_false_iff, decide_eq_false_iff_not] at hl
  have h1 : g.nodes.length ≤ 40 := by omega
  refine ⟨h1, fun n hn => ?_⟩
  have h2 := hl.2
  rw [List.take_of_length_le h1] at h2
  have h3 : ∀ l : List Node, n ∈ l → min n.kids.length 500 ≤ sumN l := by
    intro l
    induction l with
    | nil => intro h; cases h
    | cons x l ih =>
      intro h
      simp only [sumN, List.map_cons, List.sum_cons] at ih ⊢
      rcases List.mem_cons.1 h with rfl | h
      · omega
      · have := ih h; omega
  have := h3 _ hn
  omega
theorem found_paths {g : Graph} {l : List Part} (hlg : largeR g = false) (h : (foundR g l).2 = 0) : (foundR g l).1 = (allP g).filter (isIn g l) := by
  obtain ⟨h1, h2, h3, h4⟩ := found_ok h
  have hm : ∀ n ∈ g.nodes, n.kids.length ≤ 1000000 := fun n hn => by have := (not_large hlg h2).2 n hn; omega
  rw [h4]
  have := toF_paths h2 hm l 64 g.root [] (List.replicate g.nodes.length false) (4096, []) (by simp) (Led.root h2) h3
  exact this.trans (by simp only [List.nil_append]; rfl)
theorem all_led {g : Graph} (hlg : largeR g = false) (hr : rightR g = true) : ∀ w ∈ allP g, ∃ a, Led g a w := by
  have hm : ∀ n ∈ g.nodes, n.kids.length ≤ 1000000 := fun n hn => by have := (not_large hlg hr).2 n hn; omega
  intro w hw
  obtain ⟨a, _, h⟩ := pathsF_ind (g := g) (fun a w _ => Led g a w) (fun a way met n i k w hp hlt hn hk hw hmt => hp.kid hr hm hn hk hw hlt) 64 g.root [] _ (by simp) (Led.root hr) w hw
  exact ⟨a, h⟩
theorem match_in {g : Graph} {l : List Part} (hf : fmtE l = 0) (hr : rightR g = true) {w : List Step} {a : Int} (h : Led g a w) : matchR g l w = (isIn g l w, 0) := by
  unfold matchR
  rw [if_neg (by rw [hf]; decide), h.get hr]
  rfl
theorem law_meet {g : Graph} {a b : List Part} (hlg : largeR g = false) (h : (foundR g a).2 = 0) (hm : (meetR a b).2 = 0) : ∀ w ∈ (foundR g a).1, (matchR g b w).2 = 0 ∧ ((matchR g b w).1 = true → (meetR a b).1 = true) := by
  intro w hw
  obtain ⟨h1, h2, h3, h4⟩ := found_ok h
  rw [found_paths hlg h] at hw
  obtain ⟨hw1, hw2⟩ := List.mem_filter.1 hw
  obtain ⟨c, hled⟩ := all_led hlg h2 w hw1
  unfold meetR at hm ⊢
  split at hm
  · rename_i h5
    rw [match_in h5.2 h2 hled, if_pos h5]
    exact ⟨rfl, fun hb => meet_of hw2 hb⟩
  · cases hm
theorem law_self {a : List Part} (hm : (meetR a a).2 = 0) : (meetR a a).1 = true := by
  unfold meetR at hm ⊢
  split at hm
  · rename_i h5
    rw [if_pos h5]
    exact reach_self a _ 0 rfl
  · cases hm
end Go.Eng.Tryz
set_option maxRecDepth 20000
set_option maxHeartbeats 1000000
namespace Go.Eng
theorem Le.agg {xs ys : List AV} (h : LeL xs ys) (hl : ∀ c ∈ ys, c.leaf = true) : Le (.agg xs) (.agg ys) := fun s w v k => by
  simp only [VR] at k ⊢
  obtain ⟨vs, k1, k2, _⟩ := k
  exact ⟨vs, k1, VRs_le h k2, hl⟩
theorem LeL.length : ∀ {xs ys : List AV}, LeL xs ys → xs.length = ys.length
  | [], [], _ => rfl
  | x :: xs, y :: ys, h => by simp only [List.length_cons, LeL.length h.2]
  | [], _ :: _, h => h.elim
  | _ :: _, [], h => h.elim
theorem Le.fslL {f : Bool} {sz : Nat} {xs ys : List AV} (h : LeL xs ys) (hl : ∀ c ∈ ys, c.elt = true) : Le (.fsl f sz xs) (.fsl false sz ys) := fun s w v k => by
  have hn := LeL.length h
  unfold VR at k ⊢
  obtain ⟨A, c, k1, k2, k3, k4⟩ := k
  refine ⟨A, c, by rw [← hn]; exact k1, by omega, (fun e => nomatch e), ?_⟩
  rcases k4 with k4 | ⟨a, rs, k5, k6, k7, k8, k9, k10, k11⟩
  · subst k4
    exact .inl (List.eq_nil_of_length_eq_zero (by rw [← hn]; rfl))
  · exact .inr ⟨a, rs, k5, VRs_le h k6, k7, k8, k9, hl, k11⟩
end Go.Eng
namespace Go.Eng.Tryz
open Go.Eng Go.Proofs Go.RowKit
def hs (s : List Nat) : Node := ⟨4, s, []⟩
def houseG : Graph := ⟨[⟨6, [], [1, 2]⟩, hs [97], ⟨5, [], [3, 8]⟩, ⟨6, [], [4, 5, 6, 7]⟩, hs [107], hs [118], hs [98], ⟨3, [49], []⟩, ⟨6, [], [9, 10, 11, 12]⟩, hs [107], hs [119], hs [98], ⟨3, [50], []⟩], 0⟩
theorem leaf_node (n : Node) : ∀ c ∈ n.cells, c.leaf = true := fun c hc => by
  simp only [Node.cells, List.mem_cons, List.not_mem_nil, or_false] at hc
  rcases hc with rfl | rfl | rfl <;> rfl
theorem leaf_graph (g : Graph) : ∀ c ∈ g.cells, c.leaf = true := fun c hc => by
  simp only [Graph.cells, List.mem_cons, List.not_mem_nil, or_false] at hc
  rcases hc with rfl | rfl <;> rfl
theorem str_ok (s : List Nat) : Puv 101 [.str s] (.agg [.int .i64 4, .str s, .nils]) := by
  refine pv ok101 rfl rfl fun h => ?_
  repeat' (first | (simp (disch := omega) [go_sem, S101, *]) | (omega) | (with_reducible refine Br_dec (fun hp => ?_) (fun hp => ?_)) | (with_reducible refine Br_not ?_) | (with_reducible refine Br_bool (fun hp => ?_) (fun hp => ?_)) | (with_reducible refine bG_dec (fun hp => ?_) (fun hp => ?_)) | (with_reducible refine bG_bool' (fun hp => ?_) (fun hp => ?_)) | ((with_reducible refine Go_regD _ _ ?hn ?_); case hn => rfl) | ((with_reducible refine Go_regN _ _ ?hn ?_); case hn => rfl) | (with_reducible refine dE_some ?_ ?_) | (with_reducible refine dN_some ?_ ?_) | (with_reducible refine dN_some' ?_ ?_) | ((with_reducible refine Rd_dG ?hn _ _ _ _ _ ?_); case hn => rfl) | (with_reducible refine dG_dec (fun hp => ?_) (fun hp => ?_)) | (with_reducible refine dG_bool' (fun hp => ?_) (fun hp => ?_)) | (with_reducible refine Rd_nil' ?_))
theorem house_le : Le (.agg [.fsl true 3 [.agg [.int .i64 6, .str [], .fsl true 1 [.int .i64 1, .int .i64 2]], .agg [.int .i64 4, .str [97], .nils], .agg [.int .i64 5, .str [], .fsl true 1 [.int .i64 3, .int .i64 8]], .agg [.int .i64 6, .str [], .fsl true 1 [.int .i64 4, .int .i64 5, .int .i64 6, .int .i64 7]], .agg [.int .i64 4, .str [107], .nils], .agg [.int .i64 4, .str [118], .nils], .agg [.int .i64 4, .str [98], .nils], .agg [.int .i64 3, .str [49], .nils], .agg [.int .i64 6, .str [], .fsl true 1 [.int .i64 9, .int .i64 10, .int .i64 11, .int .i64 12]], .agg [.int .i64 4, .str [107], .nils], .agg [.int .i64 4, .str [119], .nils], .agg [.int .i64 4, .str [98], .nils], .agg [.int .i64 3, .str [50], .nils]], .int .i64 0]) houseG.av := by
  have hn : ∀ (k : Int) (s : List Nat), Le (.agg [.int .i64 k, .str s, .nils]) (⟨k, s, []⟩ : Node).av := fun k s => Le.agg ⟨Le.refl _, Le.refl _, Le.nils _ _, trivial⟩ (leaf_node _)
  have hf : ∀ (k : Int) (s : List Nat) (l : List Int), Le (.agg [.int .i64 k, .str s, .fsl true 1 (l.map (AV.int .i64))]) (⟨k, s, l⟩ : Node).av := fun k s l => Le.agg ⟨Le.refl _, Le.refl _, Le.fsl _ _ _, trivial⟩ (leaf_node _)
  refine Le.agg ⟨Le.fslL ⟨hf 6 [] [1, 2], hn _ _, hf 5 [] [3, 8], hf 6 [] [4, 5, 6, 7], hn _ _, hn _ _, hn _ _, hn _ _, hf 6 [] [9, 10, 11, 12], hn _ _, hn _ _, hn _ _, hn _ _, trivial⟩ ?_, Le.refl _, trivial⟩ ?_
  · intro c hc
    obtain ⟨x, _, rfl⟩ := List.mem_map.1 hc
    rfl
  · exact leaf_graph _
theorem house_ok : Pur 48 [] fun v => v = houseG.av := by
  refine pq ok48 rfl rfl fun h => ?_
  repeat' (first | (simp (disch := omega) [go_sem, S48, evPartsL, fzS, fzL, chunks, mkE, sub, *]) | (omega) | (with_reducible refine Br_dec (fun hp => ?_) (fun hp => ?_)) | (with_reducible refine Br_not ?_) | (with_reducible refine Br_bool (fun hp => ?_) (fun hp => ?_)) | (with_reducible refine bG_dec (fun hp => ?_) (fun hp => ?_)) | (with_reducible refine bG_bool' (fun hp => ?_) (fun hp => ?_)) | (refine bC_v (str_ok _) ?_) | ((with_reducible refine Go_regD _ _ ?hn ?_); case hn => rfl) | ((with_reducible refine Go_regN _ _ ?hn ?_); case hn => rfl) | (with_reducible refine dE_some ?_ ?_) | (with_reducible refine dN_some ?_ ?_) | (with_reducible refine dN_some' ?_ ?_) | ((with_reducible refine Rd_dG ?hn _ _ _ _ _ ?_); case hn => rfl) | (with_reducible refine dG_dec (fun hp => ?_) (fun hp => ?_)) | (with_reducible refine dG_bool' (fun hp => ?_) (fun hp => ?_)) | (with_reducible refine Rd_nil' ?_))
  exact house_le
end Go.Eng.Tryz
set_option maxRecDepth 20000
set_option maxHeartbeats 1000000
namespace Go.Eng
theorem chunks_leaf : ∀ {rs : List AV}, (∀ c ∈ rs, c.leaf = true) → chunks 1 rs.length rs = rs := fun {rs} h => by
  have h1 : ∀ {rs : List AV}, (∀ c ∈ rs, c.leaf = true) → rs.flatMap AV.cells = rs := by
    intro rs
    induction rs with
    | nil => intro _; rfl
    | cons c rs ih =>
      intro h
      rw [List.flatMap_cons, ih fun x hx => h x (List.mem_cons_of_mem _ hx)]
      have : c.cells = [c] := by
        have := h c List.mem_cons_self
        cases c <;> first | rfl | cases this
      rw [this]; rfl
  have h2 := chunks_flat (sz := 1) (es := rs) fun e he => okE_leaf (h e he)
  rw [h1 h] at h2
  exact h2
end Go.Eng
namespace Go.Eng.Tryz
open Go.Eng Go.Proofs Go.RowKit
theorem closed_steps {p : Nat → Bool} {h : H} (d : Nat) (l : List Step) : fzL p h (d + 2) ((l.map Step.av).flatMap AV.cells) = some ((l.map Step.av).flatMap AV.cells) := by
  refine fzL_of fun c hc => ?_
  obtain ⟨x, hx, hcx⟩ := List.mem_flatMap.1 hc
  obtain ⟨y, _, rfl⟩ := List.mem_map.1 hx
  simp only [Step.av, AV.cells, Step.cells, List.mem_cons, List.not_mem_nil, or_false] at hcx
  rcases hcx with rfl | rfl | rfl <;> exact fz_closed _ _ trivial
theorem fz_outs {p : Nat → Bool} {h : H} (k : Nat) {B : Nat} (hp : ∀ l, B ≤ l → p l = false) : ∀ (vs : List AV) (out : List (List Step)), vs.length = out.length →
    (∀ (j : Nat) (v : AV) (w : List Step), vs[j]? = some v → out[j]? = some w → ∃ B', B ≤ B' ∧ Els B' h v 3 85 (w.map Step.av)) → ∃ rs, fzL p h (k + 4) vs = some rs ∧ LeL rs (out.map steps) ∧ (∀ c ∈ rs, c.leaf = true) ∧ rs.length = vs.length
  | [], [], _, _ => ⟨[], by simp only [fzL], trivial, by simp, rfl⟩
  | v :: vs, w :: out, hl, hv => by
    obtain ⟨rs, h1, h2, h3, h4⟩ := fz_outs k hp vs out (by simpa using hl) fun j v w a b => hv (j + 1) v w (by simpa using a) (by simpa using b)
    obtain ⟨B', hB, he⟩ := hv 0 v w rfl rfl
    obtain ⟨v1, k1, k2⟩ := he.fz (p := p) (d := k + 2) (fun l hl => hp l (by omega)) (closed_steps _ _)
    refine ⟨v1 :: rs, ?_, ⟨k2, h2⟩, fun c hc => ?_, by simp [h4]⟩
    · rw [fzL_cons, h1, k1]; rfl
    · rcases List.mem_cons.1 hc with rfl | hc
      · exact fz_leaf k1 he.elt.2.1
      · exact h3 c hc
  | [], _ :: _, hl, _ => by simp at hl
  | _ :: _, [], hl, _ => by simp at hl
def ways (out : List (List Step)) : AV := .fsl false 1 (out.map steps)
theorem OutR.fz {p : Nat → Bool} {B : Nat} (k : Nat) {h : H} {ov : AV} {out : List (List Step)} (ho : OutR B h ov out) (hp : ∀ l, B ≤ l → p l = false) : ∃ v1, Go.Eng.fz p h (k + 5) ov = some v1 ∧ Le v1 (ways out) := by
  rcases ho with ⟨rfl, rfl⟩ | ⟨l, vs, rfl, h2, h3, h4, h5, h6, h7⟩
  · exact ⟨.nils, by simp only [Go.Eng.fz], Le.nils _ _⟩
  · obtain ⟨rs, k1, k2, k3, k4⟩ := fz_outs (h := h) k hp vs out h6 fun j v w a b => by
      rcases h7 j v w a b with ⟨rfl, rfl⟩ | ⟨l', rfl, m1, m2, m3, m4⟩
      · exact ⟨B, Nat.le_refl _, Els.nil _ _ _ _⟩
      · exact ⟨B, Nat.le_refl _, okE_steps w, .inr ⟨l', by simp, m1, by omega, by simpa using m3, m4⟩⟩
    have hsub : sub vs 0 (out.length * 1) = some vs := by simp [sub, ← h6]
    have hch : chunks 1 out.length rs = rs := by rw [← h6, ← k4]; exact chunks_leaf k3
    refine ⟨.fsl false 1 rs, ?_, Le.fslL k2 fun c hc => ?_⟩
    · rw [fz_sl, hp l h2, h5]
      simp only [fzS, hsub, k1, mapA, hch]
      simp
    · obtain ⟨x, _, rfl⟩ := List.mem_map.1 hc
      rfl
theorem OutR.low {B : Nat} {h : H} {ov : AV} {out : List (List Step)} (ho : OutR B h ov out) : OutR 0 h ov out := by
  refine ho.imp id ?_
  rintro ⟨l, vs, h1, h2, h3, h4, h5, h6, h7⟩
  refine ⟨l, vs, h1, Nat.zero_le _, h3, h4, h5, h6, fun k v w hv hw => ?_⟩
  refine (h7 k v w hv hw).imp id ?_
  rintro ⟨l', k1, k2, k3, k4, k5⟩
  exact ⟨l', k1, Nat.zero_le _, k3, k4, k5⟩
def FindV (g : Graph) (l : List Part) (v : AV) (h' : H) : Prop := ∃ ov, v = .tup [ov, .int .i64 (foundR g l).2] ∧ OutR 0 h' ov (foundR g l).1
theorem FindV.of {g : Graph} {l : List Part} {out : List (List Step)} {n : Int} (hr : foundR g l = (out, n)) {ov : AV} {h' : H} (ho : OutR 0 h' ov out) : FindV g l (.tup [ov, .int .i64 n]) h' := ⟨ov, by rw [hr], by rw [hr]; exact ho⟩
theorem Find22_sp (g : Graph) (hg : Small g) (l : List Part) (hl : l.length < 1099511627776) (h : H) : Spc 22 [g.av, parts l] h (FindV g l) := by
  refine sg ok22 rfl ?_
  have hf := FormatQ_ok l hl
  have hright := Right_ok g hg
  unfold parts at hf
  unfold Graph.av Graph.cells at hright
  have hbad : ∀ n : Int, foundR g l = ([], n) → ∀ h', FindV g l (.tup [.nils, .int .i64 n]) h' := fun n hn h' => FindV.of hn (.inl ⟨rfl, rfl⟩)
  have hgood := fun {out : List (List Step)} {n : Int} (hr : foundR g l = (out, n)) {ov : AV} {h' : H} (ho : OutR 0 h' ov out) => FindV.of hr ho
  by_cases c1 : fmtE l = 0
  · rw [c1] at hf
    cases c2 : rightR g with
    | false =>
      rw [c2] at hright
      have e := hbad 1 (by unfold foundR; rw [if_pos (.inr c2)])
      generalize FindV g l = Ψ at *
      clear hbad hgood
      repeat' (first | (simp (disch := omega) [go_sem, S22, parts, Graph.av, Graph.cells, *]) | (omega) | (with_reducible refine Br_dec (fun hp => ?_) (fun hp => ?_)) | (with_reducible refine Br_not ?_) | (with_reducible refine Br_bool (fun hp => ?_) (fun hp => ?_)) | (with_reducible refine bG_dec (fun hp => ?_) (fun hp => ?_)) | (with_reducible refine bG_bool' (fun hp => ?_) (fun hp => ?_)) | (refine bC_pure hf fun v hv => ?_; obtain ⟨t, rfl⟩ := hv) | (refine bC_v hright ?_) | (exact e) | ((with_reducible refine Go_regD _ _ ?hn ?_); case hn => rfl) | ((with_reducible refine Go_regN _ _ ?hn ?_); case hn => rfl) | (with_reducible refine dE_some ?_ ?_) | (with_reducible refine dN_some ?_ ?_) | (with_reducible refine dN_some' ?_ ?_) | ((with_reducible refine Rd_dG ?hn _ _ _ _ _ ?_); case hn => rfl) | (with_reducible refine dG_dec (fun hp => ?_) (fun hp => ?_)) | (with_reducible refine dG_bool' (fun hp => ?_) (fun hp => ?_)) | (with_reducible refine Rd_nil' ?_))
    | true =>
      rw [c2] at hright
      have hl32 := (fmtE_zero c1).1
      obtain ⟨hr1, hr2, hr3, -⟩ := right_parts c2
      have hgn := hg.nodes
      have hbg := fun h2 (hm : IsM h2 (h.next + 2) g l) => begin_ok h2 (h.next + 2) g l hm hl32
      have hto := fun (h2 : H) (F : IsF h2 (h.next + 2) (h.next + 1) g l .nils 4096 (List.replicate g.nodes.length false)) => find_to g hg c2 l hl32 (h.next + 2) (h.next + 1) 64 g.root [] .nils (freeR l 1) (List.replicate g.nodes.length false) .nils (4096, []) h2 hr2 hr3 rfl (begin_bound l) (by simp) (by rw [List.getD_eq_getElem?_getD, List.getElem?_replicate]; split <;> rfl) (by decide) (by decide) F (.inl ⟨rfl, rfl⟩) (Els.nil _ _ _ _) (fun j hj => hj.elim)
      have hS : toF g l 64 g.root [] (freeR l 1) (List.replicate g.nodes.length false) (4096, []) = startF g l := rfl
      rw [hS] at hto
      have hfr : foundR g l = if (startF g l).1 < 0 then ([], 5) else ((startF g l).2, 0) := by
        unfold foundR
        rw [if_neg]
        rintro (h | h)
        · exact h c1
        · rw [c2] at h; cases h
      clear hS
      generalize startF g l = T at *
      have e1 : T.1 < 0 → ∀ h', FindV g l (.tup [.nils, .int .i64 5]) h' := fun hc h' => hbad 5 (by rw [hfr, if_pos hc]) h'
      have e2 : ¬ T.1 < 0 → ∀ ov h' B, OutR B h' ov T.2 → FindV g l (.tup [ov, .int .i64 0]) h' := fun hc ov h' B ho => hgood (by rw [hfr, if_neg hc]) ho.low
      generalize FindV g l = Ψ at *
      clear hbad hgood hfr
      generalize freeR l 1 = b0 at *
      repeat' (first | (simp (disch := omega) [go_sem, S22, parts, Graph.av, Graph.cells, *]) | (omega) | (with_reducible refine Br_dec (fun hp => ?_) (fun hp => ?_)) | (with_reducible refine Br_not ?_) | (with_reducible refine Br_bool (fun hp => ?_) (fun hp => ?_)) | (with_reducible refine bG_dec (fun hp => ?_) (fun hp => ?_)) | (with_reducible refine bG_bool' (fun hp => ?_) (fun hp => ?_)) | (refine bC_pure hf fun v hv => ?_; obtain ⟨t, rfl⟩ := hv) | (refine bC_v hright ?_) | (refine dC_spec (hbg _ ⟨[.nils, .int .i64 4096, .sl (h.next + 1) 0 1 g.nodes.length g.nodes.length true], 103, some 0, by simp (disch := omega) [go_sem, parts], by simp [go_sem]⟩) fun v h2 hv => ?_; obtain ⟨rfl, hk⟩ := hv; have k1 := hk.1; have k2 := hk.2; clear hk; simp only [go_sem] at k1; have k3 : h2.get h.next = some (.cells [.fsl false 3 (g.nodes.map Node.av), .int .i64 g.root] 24 (some 0)) := (by rw [k2 _ (by simp only [go_sem]; omega)]; simp (disch := omega) [go_sem])) | (refine dC_spec (hto _ ⟨by rw [k2 _ (by simp [go_sem])]; simp (disch := omega) [go_sem, parts], by rw [k2 _ (by simp only [go_sem]; omega)]; simp (disch := omega) [go_sem], by omega, by omega⟩) fun v h3 hv => ?_; obtain ⟨rfl, ov3, ⟨f1, f2, f3, f4⟩, hO, hK, hs⟩ := hv; unfold parts at f1; have k4 : h3.get h.next = h2.get h.next := hK.2.1 _ (by omega) (by omega) (by omega) (fun hc => hc); rw [k3] at k4; clear hto hbg k2 hK k3) | ((with_reducible refine Go_regD _ _ ?hn ?_); case hn => rfl) | ((with_reducible refine Go_regN _ _ ?hn ?_); case hn => rfl) | (with_reducible refine dE_some ?_ ?_) | (with_reducible refine dN_some ?_ ?_) | (with_reducible refine dN_some' ?_ ?_) | ((with_reducible refine Rd_dG ?hn _ _ _ _ _ ?_); case hn => rfl) | (with_reducible refine dG_dec (fun hp => ?_) (fun hp => ?_)) | (with_reducible refine dG_bool' (fun hp => ?_) (fun hp => ?_)) | (with_reducible refine Rd_nil' ?_))
  · have e := hbad 1 (by unfold foundR; rw [if_pos (.inl c1)])
    generalize FindV g l = Ψ at *
    clear hbad hgood
    repeat' (first | (simp (disch := omega) [go_sem, S22, parts, Graph.av, Graph.cells, *]) | (omega) | (with_reducible refine Br_dec (fun hp => ?_) (fun hp => ?_)) | (with_reducible refine Br_not ?_) | (with_reducible refine Br_bool (fun hp => ?_) (fun hp => ?_)) | (with_reducible refine bG_dec (fun hp => ?_) (fun hp => ?_)) | (with_reducible refine bG_bool' (fun hp => ?_) (fun hp => ?_)) | (refine bC_pure hf fun v hv => ?_; obtain ⟨t, rfl⟩ := hv) | (refine bC_v hright ?_) | (exact e) | ((with_reducible refine Go_regD _ _ ?hn ?_); case hn => rfl) | ((with_reducible refine Go_regN _ _ ?hn ?_); case hn => rfl) | (with_reducible refine dE_some ?_ ?_) | (with_reducible refine dN_some ?_ ?_) | (with_reducible refine dN_some' ?_ ?_) | ((with_reducible refine Rd_dG ?hn _ _ _ _ _ ?_); case hn => rfl) | (with_reducible refine dG_dec (fun hp => ?_) (fun hp => ?_)) | (with_reducible refine dG_bool' (fun hp => ?_) (fun hp => ?_)) | (with_reducible refine Rd_nil' ?_))
theorem FindV.fz {g : Graph} {l : List Part} {v : AV} {h' : H} (hv : FindV g l v h') : ∃ v1, Go.Eng.fz (fun _ => false) h' 8 v = some v1 ∧ Le v1 (.tup [ways (foundR g l).1, .int .i64 (foundR g l).2]) := by
  obtain ⟨ov, rfl, ho⟩ := hv
  obtain ⟨v1, q1, q2⟩ := ho.fz (p := fun _ => false) 1 (fun _ _ => rfl)
  refine ⟨.tup [v1, .int .i64 (foundR g l).2], ?_, Le.tup ⟨q2, Le.refl _, trivial⟩⟩
  simp only [go_sem, q1]
theorem Find22_ok (g : Graph) (hg : Small g) (l : List Part) (hl : l.length < 1099511627776) : Pur 22 [g.av, parts l] fun v => v = .tup [ways (foundR g l).1, .int .i64 (foundR g l).2] :=
  Pure.of 8 (by simp [AV.clL, cl_graph, cl_parts]) hG0 fun h0 => (Find22_sp g hg l hl h0).mono fun v h1 hv => by
    obtain ⟨v1, q1, q2⟩ := hv.fz
    exact ⟨_, v1, q1, q2, rfl⟩
def labs : List AV → List Nat
  | [] => []
  | .sl l _ _ _ _ _ :: vs => l :: labs vs
  | _ :: vs => labs vs
theorem labs_mem {l o z n c : Nat} {x : Bool} : ∀ {vs : List AV}, AV.sl l o z n c x ∈ vs → l ∈ labs vs
  | v :: vs, h => by
    rcases List.mem_cons.1 h with rfl | h
    · exact List.mem_cons_self
    · have := labs_mem h
      cases v <;> simp only [labs] <;> first | exact this | exact List.mem_cons_of_mem _ this
theorem mem_labs {l : Nat} : ∀ {vs : List AV}, l ∈ labs vs → ∃ o z n c x, AV.sl l o z n c x ∈ vs
  | v :: vs, h => by
    have go : l ∈ labs vs → ∃ o z n c x, AV.sl l o z n c x ∈ v :: vs := fun h => by
      obtain ⟨o, z, n, c, x, hm⟩ := mem_labs h
      exact ⟨o, z, n, c, x, List.mem_cons_of_mem _ hm⟩
    cases v with
    | sl l' o z n c x =>
      simp only [labs] at h
      rcases List.mem_cons.1 h with rfl | h
      · exact ⟨o, z, n, c, x, List.mem_cons_self⟩
      · exact go h
    | _ => exact go h
theorem OutR.own {h : H} {ov : AV} {out : List (List Step)} (ho : OutR 0 h ov out) : ∃ L1 : List Nat, ov.own L1.contains = true ∧ ∀ l ∈ L1, ∀ o, h.get l = some o → o.own L1.contains = true := by
  rcases ho with ⟨rfl, rfl⟩ | ⟨l, vs, rfl, h2, h3, h4, h5, h6, h7⟩
  · exact ⟨[], rfl, by simp⟩
  · have hw : ∀ v ∈ vs, v = .nils ∨ ∃ l' w, v = .sl l' 0 3 (List.length w) w.length false ∧ h.get l' = some (.cells ((w.map Step.av).flatMap AV.cells) 85 (some 0)) := fun v hv => by
      obtain ⟨j, hj, rfl⟩ := List.mem_iff_getElem.1 hv
      rcases h7 j _ out[j] (List.getElem?_eq_getElem hj) (List.getElem?_eq_getElem (by omega)) with ⟨k1, _⟩ | ⟨l', k1, _, _, _, k2⟩
      · exact .inl k1
      · exact .inr ⟨l', _, k1, k2⟩
    refine ⟨l :: labs vs, by simp [AV.own], fun k hk o ho => ?_⟩
    rcases List.mem_cons.1 hk with rfl | hk
    · rw [h5] at ho
      injection ho with ho; subst ho
      refine ownL_of fun c hc => ?_
      rcases hw c hc with rfl | ⟨l', w, rfl, _⟩
      · rfl
      · simp [AV.own, labs_mem hc]
    · obtain ⟨o', z, n, c, x, hm⟩ := mem_labs hk
      rcases hw _ hm with h8 | ⟨l', w, h8, h9⟩
      · cases h8
      · injection h8 with h8
        subst h8
        rw [h9] at ho
        injection ho with ho; subst ho
        refine ownL_of fun c hc => ?_
        obtain ⟨y, hy, hcy⟩ := List.mem_flatMap.1 hc
        obtain ⟨x, _, rfl⟩ := List.mem_map.1 hy
        simp only [Step.av, AV.cells, Step.cells, List.mem_cons, List.not_mem_nil, or_false] at hcy
        rcases hcy with rfl | rfl | rfl <;> rfl
theorem fz_graph {p : Nat → Bool} {h : H} (d : Nat) (g : Graph) : Go.Eng.fz p h (d + 3) g.av = some g.av := by
  have h1 : AV.clL p (g.nodes.map Node.av) = true := clL_map _ _ cl_node
  unfold Graph.av Graph.cells
  simp [go_sem, Go.Eng.fz, h1]
theorem Find22_lend (g : Graph) (hg : Small g) (l : List Part) (hl : l.length < 1099511627776) (h : H) (x : AV) (d : Nat) (hx : ∃ y, Go.Eng.fz (fun _ => false) h (d + 3) x = some y ∧ Le y (parts l)) : Spc 22 [g.av, x] h fun v h' => v = .tup [ways (foundR g l).1, .int .i64 (foundR g l).2] ∧ h' = h := by
  obtain ⟨y, hx, hle⟩ := hx
  exact Spec.lend (xs1 := [g.av, y]) (xs' := [g.av, parts l]) (d + 4) 8 (by rw [fzL_cons, fzL_cons, fz_graph, hx]; simp only [fzL]; rfl) ⟨Le.refl _, hle, trivial⟩ hG0 ((Find22_sp g hg l hl _).mono fun v h1 hv => by
    obtain ⟨v1, q1, q2⟩ := hv.fz
    obtain ⟨ov, rfl, ho⟩ := hv
    obtain ⟨L1, o1, o2⟩ := ho.own
    exact ⟨L1, _, v1, by simp [AV.own, AV.ownL, o1], o2, q1, q2, rfl⟩)
end Go.Eng.Tryz
set_option maxRecDepth 20000
set_option maxHeartbeats 1000000
namespace Go.Eng
theorem Pure.of0 {P : Program} {U : List (TypeId × TypeId)} {G : Nat → AV} {f : FuncId} {xs : List AV} (d : Nat) {Q : AV → Prop} (hx : AV.clL (fun _ => false) xs = true) (hGc : ∀ g, (G g).cl (fun _ => false) = true)
    (hs : Spec P U G f xs ⟨0, .nil⟩ fun v0 h1 => ∃ v v1, fz (fun _ => false) h1 d v0 = some v1 ∧ Le v1 v ∧ Q v) : Pure P U G f xs Q := by
  intro h s w vs hsU hr hG hvs
  let s0 : St := ⟨fun _ => none, s.F, s.U, 0⟩
  have r0 : Rel s0 ⟨0, .nil⟩ w := ⟨Nat.le_refl _, fun l b d m hl => (by cases hl), fun l b d m hl => (by cases hl), hr.Flt, fun l l' b d m d' m' h1 => (by cases h1), fun l b d m o hl => (by cases hl)⟩
  have hG0 : GlobR s0 w G := ⟨fun g => VR_cl (s := s) (s' := s0) (p := fun _ => false) (fun l x hp => by cases hp) (fun _ h => h) (hGc g) (hG.val g), hG.whole⟩
  have hv0 : VRs s0 w xs vs.toList := VRs_cl (s := s) (s' := s0) (p := fun _ => false) (fun l x hp => by cases hp) (fun _ h => h) hx hvs
  refine (hs s0 w vs hsU r0 hG0 hv0).mono ?_
  rintro r w' ⟨v0, h1, s1, ⟨v, v1, q1, q2, q3⟩, r1, st, hv⟩
  let s2 : St := ⟨s.ρ, fun b => s1.F b ∨ (w.heap.size ≤ b ∧ b < w'.heap.size ∧ ∃ l d m, s1.ρ l = some (b, d, m) ∧ (h1.get l).isSome = true), s.U, s.n⟩
  have F2 : ∀ b, s1.F b → s2.F b := fun b hb => .inl hb
  have N2 : ∀ l b d m, s1.ρ l = some (b, d, m) → (fun _ : Nat => false) l = false → (h1.get l).isSome = true → s2.F b := by
    intro l b d m hl _ hlv
    refine .inr ⟨?_, (r1.lt l b d m hl).2, l, d, m, hl, hlv⟩
    rcases st.ext.back l b d m hl with ⟨l', d', m', h'⟩ | h'
    · cases h'
    · exact h'
  have kp : Keep s w w' := ⟨st.keep.os, st.keep.tape, st.keep.output, st.keep.size, fun b hb hn => st.keep.block b hb fun l d m hl => by cases hl⟩
  have stp : Step s w s2 w' := by
    refine ⟨⟨⟨fun _ _ h => h, fun b hb => .inl (st.ext.F b hb), rfl, fun l b d m h => .inl ⟨l, d, m, h⟩, fun b hb => ?_⟩, kp⟩, Nat.le_refl _, fun _ _ => rfl⟩
    rcases hb with hb | ⟨hb, _⟩
    · exact st.ext.Fback b hb
    · exact .inr hb
  refine ⟨v, h, s2, ⟨q3, rfl⟩, ?_, stp, q2 _ _ _ (fz_sound (p := fun _ => false) r1 (fun l x hp => by cases hp) F2 N2 q1 hv)⟩
  refine ⟨hr.low, fun l b d m hl => ?_, fun l b d m hl hF => ?_, fun b hb => ?_, fun l l' b d m d' m' h1 h2 g1 g2 => hr.inj l l' b d m d' m' h1 h2 g1 g2, fun l b d m o hl ho => ?_⟩
  · exact ⟨(hr.lt l b d m hl).1, Nat.lt_of_lt_of_le (hr.lt l b d m hl).2 kp.size⟩
  · have hlt := (hr.lt l b d m hl).2
    rcases hF with hF | ⟨hF, _⟩
    · rcases st.ext.Fback b hF with h' | h'
      · exact hr.apart l b d m hl h'
      · omega
    · omega
  · rcases hb with hb | ⟨_, hb, _⟩
    · exact r1.Flt b hb
    · exact hb
  · exact ObjR.mono' stp.toMono hr.apart (hr.obj l b d m o hl ho) (st.keep.block b (hr.lt l b d m hl).2 fun l0 d0 m0 h0' => by cases h0')
end Go.Eng
namespace Go.Eng.Tryz
open Go.Eng Go.Proofs Go.RowKit
def trimmedL (s c : List Nat) : List Nat := ofB (Lib.trimLeftS (toL s) (toL c))
theorem trimLeft_ok (s c : List Nat) (hc : c.length < 4294967281) (ha : ∀ x ∈ c, x < 128) : Puv 199 [.str s, .str c] (.str (trimmedL s c)) := by
  refine PureV.of_calls (HasBody.of Go.Proofs.Tryz.func199 (by kernel_rfl) (by kernel_rfl)) fun st w vs hG hvs => ?_
  obtain ⟨v, u, rfl, hv, hu⟩ := open2 hvs
  rw [openS hv, openS hu]
  refine (Any.strings_TrimLeft_laid Go.Proofs.Tryz.lays161 (by kernel_rfl) (toB s) (toB c) w (by rw [toB_size]; exact hc) (fun j b hb => ?_)).mono ?_
  · rw [toB_list] at hb
    obtain ⟨x, hx, rfl⟩ := List.mem_map.1 (List.mem_of_getElem? hb)
    have := ha x hx
    simp; omega
  · rintro e w' ⟨rfl, hw⟩
    exact ⟨_, rfl, hw, fun s' w' => by rw [toB_list, toB_list]; exact VR_ofB _ _ _⟩
end Go.Eng.Tryz
set_option maxRecDepth 20000
namespace Go.Eng.Tryz
open Go.Eng Go.Proofs Go.RowKit
def tab : FT :=
 (.n (.n (.n (.n .e
 47 ⟨48, [.t 2,.c 3 2 true], S47⟩
 .e)
 98 ⟨18, [], S98⟩
 (.n .e
 99 ⟨13, [.t 2], S99⟩
 .e))
 100 ⟨27, [.c 2 4 true], S100⟩
 (.n (.n .e
 146 ⟨21, [.t 4], S146⟩
 .e)
 147 ⟨66, [.c 4 4 true], S147⟩
 (.n .e
 148 ⟨18, [], S148⟩
 .e)))
 149 ⟨72, [.t 4], S149⟩
 (.n (.n (.n .e
 181 ⟨11, [.t 4,.t 5], S181⟩
 .e)
 182 ⟨18, [.t 4], S182⟩
 (.n .e
 183 ⟨23, [], S183⟩
 .e))
 185 ⟨8, [.t 4], S185⟩
 (.n (.n .e
 211 ⟨15, [.t 4,.t 5], S211⟩
 .e)
 214 ⟨18, [.t 4], S214⟩
 .e)))
theorem tab_ok : tab.All Go.Proofs.Tryz.prog :=
 ⟨⟨⟨⟨trivial, ok47, trivial⟩, ok98, ⟨trivial, ok99, trivial⟩⟩, ok100, ⟨⟨trivial, ok146, trivial⟩, ok147, ⟨trivial, ok148, trivial⟩⟩⟩, ok149, ⟨⟨⟨trivial, ok181, trivial⟩, ok182, ⟨trivial, ok183, trivial⟩⟩, ok185, ⟨⟨trivial, ok211, trivial⟩, ok214, trivial⟩⟩⟩
def nat1 : CF := fun f xs h => match xs with
  | [.str s, .str c] => if Nat.beq f 199 && Nat.ble c.length 1000 && c.all (fun x => Nat.ble (x + 1) 128) then some (.str (trimmedL s c), h) else none
  | _ => none
theorem nat1_ok : ∀ f xs h v h', nat1 f xs h = some (v, h') → Spc f xs h fun v1 h1 => v1 = v ∧ h1 = h' := by
  intro f xs h v h' hr
  unfold nat1 at hr
  split at hr
  · rename_i s c
    split at hr
    · rename_i hc
      simp only [Bool.and_eq_true] at hc
      obtain ⟨⟨h1, h2⟩, h3⟩ := hc
      have hf := Nat.eq_of_beq_eq_true h1
      subst hf
      injection hr with hr; injection hr with e1 e2
      subst e1; subst e2
      have hl := Nat.le_of_ble_eq_true h2
      exact trimLeft_ok s c (by omega) (fun x hx => by
        have := Nat.le_of_ble_eq_true (List.all_eq_true.1 h3 x hx)
        omega) h
    · cases hr
  · cases hr
def text47 : List Nat := [97, 91, 107, 61, 119, 93, 46, 98]
def l47 : List Part := [⟨1, [97], [], 0⟩, ⟨6, [107], [119], 0⟩, ⟨1, [98], [], 0⟩]
def run47 : Option (AV × H) := runF tab.get nat1 U0 G0 60 60 47 [.str text47] ⟨0, .nil⟩
def ok47R (x : Option (AV × H)) : Bool := match x with
  | some (v, h) => AV.beq v (.tup [.sl 12 0 4 3 3 false, .agg [.int .i64 0, .int .i64 0]]) && (match h.get 12 with
    | some (.cells cs _ _) => beqL cs ((l47.map Part.av).flatMap AV.cells)
    | _ => false)
  | none => false
theorem run47_ok : ok47R run47 = true := by kernel_rfl
theorem Parse47_ok : Puv 47 [.str text47] (.tup [parts l47, .agg [.int .i64 0, .int .i64 0]]) := by
  refine Pure.of0 8 (Q := fun v => v = _) (by simp [AV.clL, AV.cl]) hG0 ?_
  have hr := run47_ok
  cases hx : run47 with
  | none => rw [hx] at hr; cases hr
  | some p =>
    obtain ⟨v, h⟩ := p
    rw [hx] at hr
    simp only [ok47R, Bool.and_eq_true] at hr
    obtain ⟨hr1, hr2⟩ := hr
    have e1 := AV.beq_eq _ _ hr1
    split at hr2
    · rename_i cs t f hg
      have e2 := beqL_eq _ _ hr2
      refine (runF_sound hU0 hm0 (FT.ok tab_ok) nat1_ok 60 _ _ _ _ _ hx).mono ?_
      rintro v1 h1 ⟨rfl, rfl⟩
      subst e1
      rw [e2] at hg
      refine ⟨_, .tup [parts l47, .agg [.int .i64 0, .int .i64 0]], ?_, Le.refl _, rfl⟩
      unfold parts l47 Part.av Part.cells
      unfold l47 Part.av Part.cells at hg
      simp [go_sem, hg, fzS, sub, chunks, mkE, AV.cells]
    · cases hr2
end Go.Eng.Tryz
set_option maxRecDepth 20000
set_option maxHeartbeats 1000000
namespace Go.Eng.Tryz
open Go.Eng Go.Proofs Go.RowKit
def lDb : List Part := [⟨3, [], [], 0⟩, ⟨1, [98], [], 0⟩]
theorem found47 : foundR houseG l47 = ([[⟨[97], 0, false⟩, ⟨[], 1, true⟩, ⟨[98], 0, false⟩]], 0) := by kernel_rfl
theorem foundDb : foundR houseG lDb = ([[⟨[97], 0, false⟩, ⟨[], 0, true⟩, ⟨[98], 0, false⟩], [⟨[97], 0, false⟩, ⟨[], 1, true⟩, ⟨[98], 0, false⟩]], 0) := by kernel_rfl
theorem small_house : Small houseG := by
  refine ⟨by decide, fun n hn => ?_⟩
  have h : houseG.nodes.all (fun n => decide (n.text.length < 1073741824) && decide (n.kids.length < 1073741824)) = true := by decide
  have := List.all_eq_true.1 h n hn
  simpa using this
theorem alive_ok : Puv 17 [] (.bool true) := by
  refine pv ok17 rfl rfl fun h => ?_
  have h1 := Parse47_ok
  have h2 := house_ok
  have h3 := Find22_ok houseG small_house l47 (by decide)
  have h4 := fun (h : H) x hx => Find22_lend houseG small_house lDb (by decide) h x 3 hx
  rw [found47] at h3
  rw [foundDb] at h4
  unfold text47 at h1
  generalize houseG.av = gv at *
  repeat' (first | (simp (disch := omega) [go_sem, S17, ways, steps, Step.av, Step.cells, *]) | (omega) | (with_reducible refine Br_dec (fun hp => ?_) (fun hp => ?_)) | (with_reducible refine Br_not ?_) | (with_reducible refine Br_bool (fun hp => ?_) (fun hp => ?_)) | (with_reducible refine bG_dec (fun hp => ?_) (fun hp => ?_)) | (with_reducible refine bG_bool' (fun hp => ?_) (fun hp => ?_)) | (refine bC_v h1 ?_) | (refine bC_pure h2 fun v hv => ?_; subst hv) | (refine bC_pure h3 fun v hv => ?_; subst hv) | (refine bC_spec (h4 _ _ ⟨.fsl true 4 (lDb.map Part.av), by simp (disch := omega) [go_sem, fzS, sub, chunks, mkE, lDb, Part.av, Part.cells, AV.cells], Le.fsl _ _ _⟩) fun v h2 hv => ?_; obtain ⟨rfl, hh⟩ := hv; subst h2) | ((with_reducible refine Go_regD _ _ ?hn ?_); case hn => rfl) | ((with_reducible refine Go_regN _ _ ?hn ?_); case hn => rfl) | (with_reducible refine dE_some ?_ ?_) | (with_reducible refine dN_some ?_ ?_) | (with_reducible refine dN_some' ?_ ?_) | ((with_reducible refine Rd_dG ?hn _ _ _ _ _ ?_); case hn => rfl) | (with_reducible refine dG_dec (fun hp => ?_) (fun hp => ?_)) | (with_reducible refine dG_bool' (fun hp => ?_) (fun hp => ?_)) | (with_reducible refine Rd_nil' ?_))
end Go.Eng.Tryz
set_option maxRecDepth 20000
set_option maxHeartbeats 1000000
namespace Go.Eng.Tryz
open Go.Eng Go.Proofs Go.RowKit
theorem filter_first {α : Type} (p : α → Bool) (x : α) (rest : List α) : ∀ l : List α, l.filter p = x :: rest → ∃ i, i < l.length ∧ l[i]? = some x ∧ (∀ j, j < i → l[j]? ≠ some x) ∧ (l.drop (i + 1)).filter p = rest
  | [], h => by cases h
  | y :: l, h => by
    cases hp : p y with
    | true =>
      rw [List.filter_cons_of_pos hp] at h
      injection h with h1 h2
      subst h1
      exact ⟨0, by simp, rfl, fun j hj => by omega, by simpa using h2⟩
    | false =>
      rw [List.filter_cons_of_neg (by rw [hp]; decide)] at h
      obtain ⟨i, h1, h2, h3, h4⟩ := filter_first p x rest l h
      refine ⟨i + 1, by simp; omega, by simpa using h2, fun j hj => ?_, by simpa using h4⟩
      cases j with
      | zero =>
        intro he
        injection he with he
        have : x ∈ l.filter p := by rw [h]; exact List.mem_cons_self
        have := (List.mem_filter.1 this).2
        rw [← he, hp] at this
        cases this
      | succ j => simpa using h3 j (by omega)
theorem filter_next {α : Type} (p : α → Bool) (all out : List α) (at' k : Nat) (h : (all.drop at').filter p = out.drop k) (hk : k < out.length) :
    ∃ i, at' ≤ i ∧ i < all.length ∧ all[i]? = some out[k] ∧ (∀ j, at' ≤ j → j < i → all[j]? ≠ some out[k]) ∧ (all.drop (i + 1)).filter p = out.drop (k + 1) := by
  rw [drop_at out k hk] at h
  obtain ⟨i, h1, h2, h3, h4⟩ := filter_first p _ _ _ h
  simp only [List.length_drop] at h1
  refine ⟨at' + i, by omega, by omega, by rw [List.getElem?_drop] at h2; exact h2, fun j hj1 hj2 => ?_, ?_⟩
  · have := h3 (j - at') (by omega)
    rw [List.getElem?_drop, show at' + (j - at') = j by omega] at this
    exact this
  · rw [List.drop_drop] at h4
    rw [show at' + i + 1 = at' + (i + 1) by omega]
    exact h4
theorem kidW_clean {g : Graph} {n : Node} {i : Nat} {w : Step} (h : kidW g n i = some w) : cleanR w = w := by
  unfold kidW at h
  split at h
  · split at h
    · cases h
    · split at h
      · split at h
        · injection h with h; subst h; rfl
        · cases h
      · cases h
  · injection h with h; subst h; rfl
theorem all_clean {g : Graph} : ∀ w ∈ allP g, w.map cleanR = w := by
  intro w hw
  obtain ⟨_, _, h⟩ := pathsF_ind (g := g) (fun _ w _ => w.map cleanR = w) (fun a way met n i k w hp hlt hn hk hw hmt => by rw [List.map_append, hp, List.map_singleton, kidW_clean hw]) 64 g.root [] _ (by simp) rfl w hw
  exact h
def nodeAt (g : Graph) (w : List Step) (i : Nat) : Int := (getR g (w.take i)).1
structure Simp (g : Graph) (a : Int) (way : List Step) (met : List Bool) : Prop where
  led : Led g a way
  size : met.length = g.nodes.length
  has : ∀ i, i < way.length → met.getD (nodeAt g way i).toNat false = true
  once : ∀ i j, i < j → j ≤ way.length → nodeAt g way i ≠ nodeAt g way j
  good : ∀ i, i ≤ way.length → (getR g (way.take i)).2 = 0 ∧ 0 ≤ nodeAt g way i
theorem nodeAt_app (g : Graph) (way : List Step) (w : Step) (i : Nat) (hi : i ≤ way.length) : (way ++ [w]).take i = way.take i := List.take_append_of_le_length hi
theorem Simp.kid {g : Graph} (hr : rightR g = true) (hm : ∀ n ∈ g.nodes, n.kids.length ≤ 1000000) {a : Int} {way : List Step} {met : List Bool} (h : Simp g a way met) {n : Node} (hn : g.nodes[a.toNat]? = some n) {i : Nat} {k : Int} (hk : n.kids[i]? = some k) {w : Step} (hw : kidW g n i = some w) (hl : way.length < 64)
    (hmt : (met.set a.toNat true).getD k.toNat false = false) : Simp g k (way ++ [w]) (met.set a.toNat true) := by
  have hled := h.led.kid hr hm hn hk hw hl
  have ha : nodeAt g way way.length = a := by unfold nodeAt; rw [List.take_length, h.led.get hr]
  have hk' : nodeAt g (way ++ [w]) (way.length + 1) = k := by unfold nodeAt; rw [List.take_of_length_le (by simp), hled.get hr]
  have hsame : ∀ i, i ≤ way.length → nodeAt g (way ++ [w]) i = nodeAt g way i := fun i hi => by unfold nodeAt; rw [nodeAt_app g way w i hi]
  have hlo := h.led.lo
  have hhi := h.led.hi
  have hhas : ∀ i, i ≤ way.length → (met.set a.toNat true).getD (nodeAt g way i).toNat false = true := fun i hi => by
    by_cases hia : (nodeAt g way i).toNat = a.toNat
    · rw [hia, List.getD_eq_getElem?_getD, List.getElem?_set_self (by rw [h.size]; omega)]; rfl
    · rw [List.getD_eq_getElem?_getD, List.getElem?_set_ne (fun e => hia e.symm), ← List.getD_eq_getElem?_getD]
      refine h.has i ?_
      have : i ≠ way.length := fun e => hia (by rw [e, ha])
      omega
  refine ⟨hled, by rw [List.length_set]; exact h.size, fun i hi => ?_, fun i j hij hj => ?_, fun i hi => ?_⟩
  · simp at hi
    rw [hsame i (by omega)]
    exact hhas i (by omega)
  · simp at hj
    by_cases hje : j = way.length + 1
    · subst hje
      rw [hk', hsame i (by omega)]
      intro he
      have := hhas i (by omega)
      rw [he, hmt] at this
      cases this
    · rw [hsame i (by omega), hsame j (by omega)]
      exact h.once i j hij (by omega)
  · simp at hi
    by_cases hie : i = way.length + 1
    · subst hie
      rw [hk', List.take_of_length_le (by simp), hled.get hr]
      exact ⟨rfl, hled.lo⟩
    · rw [hsame i (by omega), nodeAt_app g way w i (by omega)]
      exact h.good i (by omega)
theorem all_simple {g : Graph} (hlg : largeR g = false) (hr : rightR g = true) : ∀ w ∈ allP g, ∃ a met, Simp g a w met := by
  have hm : ∀ n ∈ g.nodes, n.kids.length ≤ 1000000 := fun n hn => by have := (not_large hlg hr).2 n hn; omega
  intro w hw
  refine pathsF_ind (g := g) (fun a w met => Simp g a w met) (fun a way met n i k w hp hlt hn hk hw hmt => hp.kid hr hm hn hk hw hlt hmt) 64 g.root [] _ (by simp) ⟨Led.root hr, by simp, fun i hi => by simp at hi, fun i j hij hj => by simp at hj; omega, fun i hi => ?_⟩ w hw
  simp at hi
  subst hi
  have e : nodeAt g [] 0 = g.root := by unfold nodeAt; rw [List.take_nil, (Led.root hr).get hr]
  rw [e, List.take_nil, (Led.root hr).get hr]
  exact ⟨rfl, (right_parts hr).2.1⟩
def deepL : List Part := [⟨3, [], [], 0⟩]
theorem deep_free (b : Nat) (hb : b.testBit 0 = true) : (freeR deepL b).testBit 1 = true ∧ (freeR deepL b).testBit 0 = true := by
  simp only [freeR, freeF, deepL, hb, and_self, if_true]
  refine ⟨?_, ?_⟩
  · rw [Nat.testBit_or, Nat.testBit_two_pow]; simp
  · rw [Nat.testBit_or, hb]; rfl
theorem deep_go (g : Graph) (way : List Step) : ∀ i, (goR g deepL way i).testBit 1 = true ∧ (goR g deepL way i).testBit 0 = true
  | 0 => deep_free 1 rfl
  | i + 1 => by
    simp only [goR]
    split
    · refine deep_free _ ?_
      have h0 := (deep_go g way i).2
      generalize goR g deepL way i = b at h0 ⊢
      simp [nextF, deepL, h0]
    · exact deep_go g way i
theorem deep_in (g : Graph) (w : List Step) : isIn g deepL w = true := (deep_go g w _).1
theorem found_all {g : Graph} (hlg : largeR g = false) (h : (foundR g deepL).2 = 0) : (foundR g deepL).1 = allP g := by
  rw [found_paths hlg h]
  exact List.filter_eq_self.2 fun w _ => deep_in g w
end Go.Eng.Tryz
set_option maxRecDepth 20000
set_option maxHeartbeats 1000000
namespace Go.Eng.Tryz
open Go.Eng Go.Proofs Go.RowKit
def sameR (a b : List Step) : Bool := decide (a.map cleanR = b.map cleanR)
theorem sameR_ne {a b : List Step} {j : Nat} (ha : j < a.length) (hb : j < b.length) (h : cleanR a[j] ≠ cleanR b[j]) : sameR a b = false := by
  unfold sameR
  rw [decide_eq_false_iff_not]
  intro he
  have h1 := congrArg (·[j]?) he
  simp only [List.getElem?_map, List.getElem?_eq_getElem ha, List.getElem?_eq_getElem hb, Option.map_some, Option.some.injEq] at h1
  exact h h1
theorem Same_ok (a b : List Step) (ha : a.length < 1099511627776) (hb : b.length < 1099511627776) : Puv 23 [steps a, steps b] (.bool (sameR a b)) := by
  refine pv ok23 (by simp [AV.clL, cl_steps]) rfl fun h => ?_
  unfold steps
  generalize hr : sameR a b = r
  by_cases c1 : a.length = b.length
  · have c1' : (a.length : Int) = b.length := by omega
    repeat' (first | (simp (disch := omega) [go_sem, S23, *]) | (omega) | (with_reducible refine Br_dec (fun hp => ?_) (fun hp => ?_)) | (with_reducible refine Br_not ?_) | (with_reducible refine Br_bool (fun hp => ?_) (fun hp => ?_)) | (with_reducible refine bG_dec (fun hp => ?_) (fun hp => ?_)) | (with_reducible refine bG_bool' (fun hp => ?_) (fun hp => ?_)) | ((with_reducible refine Go_regD _ _ ?hn ?_); case hn => rfl) | ((with_reducible refine Go_regN _ _ ?hn ?_); case hn => rfl) | (with_reducible refine dE_some ?_ ?_) | (with_reducible refine dN_some ?_ ?_) | (with_reducible refine dN_some' ?_ ?_) | ((with_reducible refine Rd_dG ?hn _ _ _ _ _ ?_); case hn => rfl) | (with_reducible refine dG_dec (fun hp => ?_) (fun hp => ?_)) | (with_reducible refine dG_bool' (fun hp => ?_) (fun hp => ?_)) | (with_reducible refine Rd_nil' ?_))
    refine Go_loop (fun m e h1 => ∃ j : Nat, m = a.length - j ∧ j ≤ a.length ∧ (a.take j).map cleanR = (b.take j).map cleanR ∧ e.get 13 = .int .i64 j ∧ e.get 12 = .int .i64 a.length ∧ e.get 0 = .fsl false 3 (a.map Step.av) ∧ e.get 1 = .fsl false 3 (b.map Step.av)) (n := a.length) ?_ ?_
    · refine ⟨0, by omega, by omega, rfl, ?_, ?_, ?_, ?_⟩ <;> simp (disch := omega) [go_sem, *]
    · rintro m e h1 ⟨j, rfl, hj, hsame, q13, q12, q0, q1⟩ Q hQ
      by_cases hlt : j < a.length
      · have hltb : j < b.length := by omega
        have hxa : a[j]? = some a[j] := List.getElem?_eq_getElem hlt
        have hxb : b[j]? = some b[j] := List.getElem?_eq_getElem hltb
        have hca := clean_ok a[j]
        have hcb := clean_ok b[j]
        have hne := sameR_ne hlt hltb
        have hQ' : cleanR a[j] = cleanR b[j] → ∀ e' h', e'.get 13 = .int .i64 ((j : Int) + 1) → e'.get 12 = .int .i64 a.length → e'.get 0 = .fsl false 3 (a.map Step.av) → e'.get 1 = .fsl false 3 (b.map Step.av) → Q e' h' :=
          fun he e' h' r1 r2 r3 r4 => hQ (a.length - (j + 1)) e' h' (by omega) ⟨j + 1, rfl, by omega, by rw [take_snoc a j hlt, take_snoc b j hltb, List.map_append, List.map_append, hsame, List.map_singleton, List.map_singleton, he], r1, r2, r3, r4⟩
        unfold Step.av Step.cells at hca hcb
        generalize cleanR a[j] = x at *
        generalize cleanR b[j] = y at *
        obtain ⟨k1, i1, t1⟩ := x
        obtain ⟨k2, i2, t2⟩ := y
        clear hQ hsame
        by_cases he : k1 = k2 ∧ i1 = i2 ∧ t1 = t2
        · obtain ⟨rfl, rfl, rfl⟩ := he
          have hQ2 := hQ' rfl
          clear hQ' hne
          repeat' (first | (simp (disch := omega) [go_sem, S23, Step.av, Step.cells, *]) | (omega) | (with_reducible refine Br_dec (fun hp => ?_) (fun hp => ?_)) | (with_reducible refine Br_not ?_) | (with_reducible refine Br_bool (fun hp => ?_) (fun hp => ?_)) | (with_reducible refine bG_dec (fun hp => ?_) (fun hp => ?_)) | (with_reducible refine bG_bool' (fun hp => ?_) (fun hp => ?_)) | (refine bC_v hca ?_) | (refine dC_v hca ?_) | (refine dC_v hcb ?_) | ((with_reducible refine Go_regD _ _ ?hn ?_); case hn => rfl) | ((with_reducible refine Go_regN _ _ ?hn ?_); case hn => rfl) | (with_reducible refine dE_some ?_ ?_) | (with_reducible refine dN_some ?_ ?_) | (with_reducible refine dN_some' ?_ ?_) | ((with_reducible refine Rd_dG ?hn _ _ _ _ _ ?_); case hn => rfl) | (with_reducible refine dG_dec (fun hp => ?_) (fun hp => ?_)) | (with_reducible refine dG_bool' (fun hp => ?_) (fun hp => ?_)) | (with_reducible refine Rd_nil' ?_))
          refine hQ2 _ _ ?_ ?_ ?_ ?_ <;> simp (disch := omega) [go_sem, *]
        · have e2 : r = false := by
            rw [← hr]
            exact hne fun hc => he (by injection hc with h1 h2 h3; exact ⟨h1, h2, h3⟩)
          clear hQ' hne hr
          repeat' (first | (simp (disch := omega) [go_sem, S23, Step.av, Step.cells, *]) | (omega) | (with_reducible refine Br_dec (fun hp => ?_) (fun hp => ?_)) | (with_reducible refine Br_not ?_) | (with_reducible refine Br_bool (fun hp => ?_) (fun hp => ?_)) | (with_reducible refine bG_dec (fun hp => ?_) (fun hp => ?_)) | (with_reducible refine bG_bool' (fun hp => ?_) (fun hp => ?_)) | (refine bC_v hca ?_) | (refine dC_v hca ?_) | (refine dC_v hcb ?_) | ((with_reducible refine Go_regD _ _ ?hn ?_); case hn => rfl) | ((with_reducible refine Go_regN _ _ ?hn ?_); case hn => rfl) | (with_reducible refine dE_some ?_ ?_) | (with_reducible refine dN_some ?_ ?_) | (with_reducible refine dN_some' ?_ ?_) | ((with_reducible refine Rd_dG ?hn _ _ _ _ _ ?_); case hn => rfl) | (with_reducible refine dG_dec (fun hp => ?_) (fun hp => ?_)) | (with_reducible refine dG_bool' (fun hp => ?_) (fun hp => ?_)) | (with_reducible refine Rd_nil' ?_))
          simp at hp
          exact absurd hp he
      · have e2 : r = true := by
          rw [List.take_of_length_le (by omega), List.take_of_length_le (by omega)] at hsame
          rw [← hr]
          unfold sameR
          rw [hsame]
          simp
        clear hQ hr
        repeat' (first | (simp (disch := omega) [go_sem, S23, *]) | (omega) | (with_reducible refine Br_dec (fun hp => ?_) (fun hp => ?_)) | (with_reducible refine Br_not ?_) | (with_reducible refine Br_bool (fun hp => ?_) (fun hp => ?_)) | (with_reducible refine bG_dec (fun hp => ?_) (fun hp => ?_)) | (with_reducible refine bG_bool' (fun hp => ?_) (fun hp => ?_)) | ((with_reducible refine Go_regD _ _ ?hn ?_); case hn => rfl) | ((with_reducible refine Go_regN _ _ ?hn ?_); case hn => rfl) | (with_reducible refine dE_some ?_ ?_) | (with_reducible refine dN_some ?_ ?_) | (with_reducible refine dN_some' ?_ ?_) | ((with_reducible refine Rd_dG ?hn _ _ _ _ _ ?_); case hn => rfl) | (with_reducible refine dG_dec (fun hp => ?_) (fun hp => ?_)) | (with_reducible refine dG_bool' (fun hp => ?_) (fun hp => ?_)) | (with_reducible refine Rd_nil' ?_))
  · have e2 : r = false := by
      rw [← hr]
      unfold sameR
      rw [decide_eq_false_iff_not]
      intro he
      have := congrArg List.length he
      simp at this
      exact c1 this
    have c2 : ¬ (a.length : Int) = b.length := by omega
    repeat' (first | (simp (disch := omega) [go_sem, S23, *]) | (omega) | (with_reducible refine Br_dec (fun hp => ?_) (fun hp => ?_)) | (with_reducible refine Br_not ?_) | (with_reducible refine Br_bool (fun hp => ?_) (fun hp => ?_)) | (with_reducible refine bG_dec (fun hp => ?_) (fun hp => ?_)) | (with_reducible refine bG_bool' (fun hp => ?_) (fun hp => ?_)) | ((with_reducible refine Go_regD _ _ ?hn ?_); case hn => rfl) | ((with_reducible refine Go_regN _ _ ?hn ?_); case hn => rfl) | (with_reducible refine dE_some ?_ ?_) | (with_reducible refine dN_some ?_ ?_) | (with_reducible refine dN_some' ?_ ?_) | ((with_reducible refine Rd_dG ?hn _ _ _ _ _ ?_); case hn => rfl) | (with_reducible refine dG_dec (fun hp => ?_) (fun hp => ?_)) | (with_reducible refine dG_bool' (fun hp => ?_) (fun hp => ?_)) | (with_reducible refine Rd_nil' ?_))
end Go.Eng.Tryz
set_option maxRecDepth 20000
set_option maxHeartbeats 2000000
namespace Go.Eng.Tryz
open Go.Eng Go.Proofs Go.RowKit
def ikey (x : Int) : AV := .int .i64 x
theorem eqKey_ikey (h : H) (a b : Int) : eqKey h (.one .int) (ikey a) (ikey b) = some (decide (a = b)) := by
  simp only [eqKey, ikey]
  first | rfl | simp [eqK]
theorem lk_ikey (h : H) (a : Int) (m : List (Int × Bool)) :
    lkO (.one .int) (.bool false) false h (.int .i64 a) (some (.map (encM ikey AV.bool m))) = some (.bool ((getA a m).getD false)) := by
  refine (lkO_enc (ek := ikey) (ev := AV.bool) (h := h) (q := .one .int) (eqKey_ikey h) (fun _ => rfl) (.bool false) false a m).trans ?_
  cases getA a m <;> rfl
theorem up_ikey (h : H) (l : Nat) (a : Int) (v : Bool) (m : List (Int × Bool)) :
    upO (.one .int) l (.int .i64 a) (.bool v) h (some (.map (encM ikey AV.bool m))) = some (.any, h.set l (.map (encM ikey AV.bool (putA a v m)))) := upO_enc (ek := ikey) (eqKey_ikey h) (fun _ => rfl) l a v m
theorem up_inil (h : H) (l : Nat) (a : Int) (v : Bool) : upO (.one .int) l (.int .i64 a) (.bool v) h (some (.map [])) = some (.any, h.set l (.map (encM ikey AV.bool [(a, v)]))) := up_ikey h l a v []
structure AllF (g : Graph) (l : List Part) (P : List (List Step)) (p : List Step → Bool) : Prop where
  size : P.length ≤ 4096
  short : ∀ w ∈ P, w.length ≤ 64
  same : ∀ w ∈ P, ∀ v ∈ P, sameR v w = decide (v = w)
  mat : ∀ w ∈ P, matchR g l w = (p w, 0)
  get : ∀ w ∈ P, ∀ i, i ≤ w.length → getR g (w.take i) = (nodeAt g w i, 0)
  root : ∀ w ∈ P, nodeAt g w 0 = g.root
  once : ∀ w ∈ P, ∀ i j, i < j → j ≤ w.length → nodeAt g w i ≠ nodeAt g w j
theorem allF {g : Graph} {l : List Part} (hlg : largeR g = false) (h : (foundR g l).2 = 0) (ha : (foundR g deepL).2 = 0) : AllF g l (foundR g deepL).1 (isIn g l) ∧ (foundR g l).1 = (foundR g deepL).1.filter (isIn g l) := by
  obtain ⟨h1, h2, h3, h4⟩ := found_ok h
  have hl := found_len g deepL
  have e := found_all hlg ha
  rw [found_paths hlg h]
  rw [e] at hl ⊢
  have hs := all_simple hlg h2
  refine ⟨⟨hl, fun w hw => ?_, fun w hw v hv => ?_, fun w hw => ?_, fun w hw i hi => ?_, fun w hw => ?_, fun w hw => ?_⟩, rfl⟩
  · obtain ⟨a, met, hs⟩ := hs w hw
    exact hs.led.short
  · unfold sameR
    rw [all_clean w hw, all_clean v hv]
  · obtain ⟨a, met, hs⟩ := hs w hw
    exact match_in h1 h2 hs.led
  · obtain ⟨a, met, hs⟩ := hs w hw
    exact Prod.ext rfl (hs.good i hi).1
  · unfold nodeAt
    rw [List.take_zero, (Led.root h2).get h2]
  · obtain ⟨a, met, hs⟩ := hs w hw
    exact hs.once
theorem QueryAll_ok (g : Graph) (hg : Small g) (l : List Part) (hl : l.length < 1073741824) : Puv 4 [g.av, parts l] (.bool true) := by
  refine pv ok4 (by simp [AV.clL, cl_graph, cl_parts]) rfl fun h => ?_
  have hlg := large_ok g hg.nodes
  have hla := long_ok l hl
  have hal := alive_ok
  unfold Graph.av Graph.cells at hlg
  unfold parts at hla
  cases c1 : largeR g with
  | true =>
    rw [c1] at hlg
    repeat' (first | (simp (disch := omega) [go_sem, S4, Graph.av, Graph.cells, parts, *]) | (omega) | (with_reducible refine Br_dec (fun hp => ?_) (fun hp => ?_)) | (with_reducible refine Br_not ?_) | (with_reducible refine Br_bool (fun hp => ?_) (fun hp => ?_)) | (with_reducible refine bG_dec (fun hp => ?_) (fun hp => ?_)) | (with_reducible refine bG_bool' (fun hp => ?_) (fun hp => ?_)) | (refine bC_v hlg ?_) | (refine bC_v hal ?_) | ((with_reducible refine Go_regD _ _ ?hn ?_); case hn => rfl) | ((with_reducible refine Go_regN _ _ ?hn ?_); case hn => rfl) | (with_reducible refine dE_some ?_ ?_) | (with_reducible refine dN_some ?_ ?_) | (with_reducible refine dN_some' ?_ ?_) | ((with_reducible refine Rd_dG ?hn _ _ _ _ _ ?_); case hn => rfl) | (with_reducible refine dG_dec (fun hp => ?_) (fun hp => ?_)) | (with_reducible refine dG_bool' (fun hp => ?_) (fun hp => ?_)) | (with_reducible refine Rd_nil' ?_))
  | false =>
    rw [c1] at hlg
    cases c2 : longR l with
    | true =>
      rw [c2] at hla
      repeat' (first | (simp (disch := omega) [go_sem, S4, Graph.av, Graph.cells, parts, *]) | (omega) | (with_reducible refine Br_dec (fun hp => ?_) (fun hp => ?_)) | (with_reducible refine Br_not ?_) | (with_reducible refine Br_bool (fun hp => ?_) (fun hp => ?_)) | (with_reducible refine bG_dec (fun hp => ?_) (fun hp => ?_)) | (with_reducible refine bG_bool' (fun hp => ?_) (fun hp => ?_)) | (refine bC_v hlg ?_) | (refine bC_v hla ?_) | (refine bC_v hal ?_) | ((with_reducible refine Go_regD _ _ ?hn ?_); case hn => rfl) | ((with_reducible refine Go_regN _ _ ?hn ?_); case hn => rfl) | (with_reducible refine dE_some ?_ ?_) | (with_reducible refine dN_some ?_ ?_) | (with_reducible refine dN_some' ?_ ?_) | ((with_reducible refine Rd_dG ?hn _ _ _ _ _ ?_); case hn => rfl) | (with_reducible refine dG_dec (fun hp => ?_) (fun hp => ?_)) | (with_reducible refine dG_bool' (fun hp => ?_) (fun hp => ?_)) | (with_reducible refine Rd_nil' ?_))
    | false =>
      rw [c2] at hla
      have hta := theirs_ok l hl
      have hfd := Find22_ok g hg l (by omega)
      have hfa := fun (h : H) x hx => Find22_lend g hg deepL (by decide) h x 3 hx
      have hmc := fun w => Match_ok g hg l w (by omega)
      have hgt := fun w => Get_ok g hg w
      have hF := fun h h2 => allF (l := l) c1 h h2
      have he : (foundR g l).2 ≠ 0 → (foundR g l).1 = [] := by
        intro hc
        unfold foundR at hc ⊢
        split
        · rfl
        · rename_i h1
          rw [if_neg h1] at hc
          split
          · rfl
          · rename_i h2
            rw [if_neg h2] at hc
            exact absurd rfl hc
      have hdp : parts deepL = .fsl false 4 [.agg [.int .i64 3, .str [], .str [], .int .i64 0]] := rfl
      rw [hdp] at hfa
      unfold parts at hta hfd hmc
      unfold Graph.av Graph.cells at hfd hmc hgt hfa
      by_cases d1 : (foundR g l).2 = 0
      · by_cases d2 : (foundR g deepL).2 = 0
        · obtain ⟨hA, hout⟩ := hF d1 d2
          rw [hout] at hfd
          rw [d1] at hfd
          rw [d2] at hfa
          clear hF he hout
          generalize (foundR g deepL).1 = P at *
          generalize isIn g l = p at *
          obtain ⟨out, hout⟩ : ∃ out, P.filter p = out := ⟨_, rfl⟩
          rw [hout] at hfd
          have hol : out.length ≤ P.length := by rw [← hout]; exact List.length_filter_le _ _
          have hPl := hA.size
          unfold ways at hfd hfa
          repeat' (first | (simp (disch := omega) [go_sem, S4, Graph.av, Graph.cells, parts, *]) | (omega) | (with_reducible refine Br_dec (fun hp => ?_) (fun hp => ?_)) | (with_reducible refine Br_not ?_) | (with_reducible refine Br_bool (fun hp => ?_) (fun hp => ?_)) | (with_reducible refine bG_dec (fun hp => ?_) (fun hp => ?_)) | (with_reducible refine bG_bool' (fun hp => ?_) (fun hp => ?_)) | (refine bC_v hlg ?_) | (refine bC_v hla ?_) | (refine bC_v hal ?_) | (refine dC_pure hta fun v hv => ?_; subst hv) | (refine dC_pure hfd fun v hv => ?_; subst hv) | (refine bC_spec (hfa _ _ ⟨.fsl true 4 [.agg [.int .i64 3, .str [], .str [], .int .i64 0]], by simp (disch := omega) [go_sem, fzS, sub, chunks, mkE, AV.cells], Le.fsl _ _ _⟩) fun v h2 hv => ?_; obtain ⟨rfl, hh⟩ := hv; subst h2) | ((with_reducible refine Go_regD _ _ ?hn ?_); case hn => rfl) | ((with_reducible refine Go_regN _ _ ?hn ?_); case hn => rfl) | (with_reducible refine dE_some ?_ ?_) | (with_reducible refine dN_some ?_ ?_) | (with_reducible refine dN_some' ?_ ?_) | ((with_reducible refine Rd_dG ?hn _ _ _ _ _ ?_); case hn => rfl) | (with_reducible refine dG_dec (fun hp => ?_) (fun hp => ?_)) | (with_reducible refine dG_bool' (fun hp => ?_) (fun hp => ?_)) | (with_reducible refine Rd_nil' ?_))
          refine Go_loop (fun m e h1 => ∃ (i at' : Nat), m = out.length - i ∧ i ≤ out.length ∧ at' ≤ P.length ∧ (P.drop at').filter p = out.drop i ∧ e.get 62 = .int .i64 i ∧ e.get 61 = .int .i64 out.length ∧ e.get 60 = .fsl false 1 (out.map steps) ∧ e.get 5 = .fsl false 1 (out.map steps) ∧ e.get 7 = .fsl false 1 (P.map steps) ∧ e.get 9 = .int .i64 at' ∧ e.get 1 = .fsl false 4 (l.map Part.av) ∧ e.get 2 = .ptr h.next 0 ∧ h1.get h.next = some (.cells [.fsl false 3 (g.nodes.map Node.av), .int .i64 g.root] 24 (some 0)) ∧ h.next < h1.next) (n := out.length) ?_ ?_
          · refine ⟨0, 0, by omega, by omega, by omega, by simpa using hout, ?_, ?_, ?_, ?_, ?_, ?_, ?_, ?_, ?_, ?_⟩ <;> simp (disch := omega) [go_sem]
          · rintro m e h1 ⟨i, at', rfl, hi, hat, hfil, q62, q61, q60, q5, q7, q9, q1, q2, hgg, hn1⟩ Q hQ
            by_cases hlt : i < out.length
            · obtain ⟨k, k1, k2, k3, k4, k5⟩ := filter_next p P out at' i hfil hlt
              have hx : out[i]? = some out[i] := List.getElem?_eq_getElem hlt
              have hmem : out[i] ∈ P := List.mem_of_getElem? k3
              have hpi : p out[i] = true := by
                have : out[i] ∈ P.filter p := by rw [hout]; exact List.getElem_mem hlt
                exact (List.mem_filter.1 this).2
              have hmj := hmc out[i]
              rw [hA.mat _ hmem, hpi] at hmj
              have hsh := hA.short _ hmem
              have hsame : ∀ (a : Nat) (ha : a < P.length), Puv 23 [steps P[a], steps out[i]] (.bool (decide (P[a] = out[i]))) := fun a ha => by
                have hma : P[a] ∈ P := List.getElem_mem ha
                have := Same_ok P[a] out[i] (by have := hA.short _ hma; omega) (by omega)
                rw [hA.same _ hmem _ hma] at this
                exact this
              have hQ' : ∀ e' h', e'.get 62 = .int .i64 ((i : Int) + 1) → e'.get 61 = .int .i64 out.length → e'.get 60 = .fsl false 1 (out.map steps) → e'.get 5 = .fsl false 1 (out.map steps) → e'.get 7 = .fsl false 1 (P.map steps) → e'.get 9 = .int .i64 ((k : Int) + 1) → e'.get 1 = .fsl false 4 (l.map Part.av) → e'.get 2 = .ptr h.next 0 → h'.get h.next = h1.get h.next → h1.next ≤ h'.next → Q e' h' :=
                fun e' h' r1 r2 r3 r4 r5 r6 r7 r8 r9 r10 => hQ (out.length - (i + 1)) e' h' (by omega) ⟨i + 1, k + 1, rfl, by omega, by omega, k5, r1, r2, r3, r4, r5, r6, r7, r8, by rw [r9]; exact hgg, by omega⟩
              clear hQ hfil k5 hA hout hmc hgt hfd hfa
              unfold steps at hmj hsame
              repeat' (first | (simp (disch := omega) [go_sem, S4, parts, steps, *]) | (omega) | (with_reducible refine Br_dec (fun hp => ?_) (fun hp => ?_)) | (with_reducible refine Br_not ?_) | (with_reducible refine Br_bool (fun hp => ?_) (fun hp => ?_)) | (with_reducible refine bG_dec (fun hp => ?_) (fun hp => ?_)) | (with_reducible refine bG_bool' (fun hp => ?_) (fun hp => ?_)) | (refine dC_pure hta fun v hv => ?_; subst hv) | (refine dC_v hmj ?_) | ((with_reducible refine Go_regD _ _ ?hn ?_); case hn => rfl) | ((with_reducible refine Go_regN _ _ ?hn ?_); case hn => rfl) | (with_reducible refine dE_some ?_ ?_) | (with_reducible refine dN_some ?_ ?_) | (with_reducible refine dN_some' ?_ ?_) | ((with_reducible refine Rd_dG ?hn _ _ _ _ _ ?_); case hn => rfl) | (with_reducible refine dG_dec (fun hp => ?_) (fun hp => ?_)) | (with_reducible refine dG_bool' (fun hp => ?_) (fun hp => ?_)) | (with_reducible refine Rd_nil' ?_))
              refine Go_loop (fun m e h2 => ∃ a : Nat, m = k - a ∧ at' ≤ a ∧ a ≤ k ∧ h2 = h1 ∧ e.get 11 = .fsl false 3 (out[i].map Step.av) ∧ e.get 62 = .int .i64 i ∧ e.get 61 = .int .i64 out.length ∧ e.get 60 = .fsl false 1 (out.map steps) ∧ e.get 5 = .fsl false 1 (out.map steps) ∧ e.get 7 = .fsl false 1 (P.map steps) ∧ e.get 9 = .int .i64 a ∧ e.get 1 = .fsl false 4 (l.map Part.av) ∧ e.get 2 = .ptr h.next 0) (n := k - at') ?_ ?_
              · refine ⟨at', by omega, by omega, by omega, rfl, ?_, ?_, ?_, ?_, ?_, ?_, ?_, ?_, ?_⟩ <;> simp (disch := omega) [go_sem, *] <;> rfl
              · clear q62 q61 q60 q5 q7 q9 q1 q2 e
                rintro m e h2 ⟨a, rfl, ha1, ha2, hh, q11, q62, q61, q60, q5, q7, q9, q1, q2⟩ Q2 hQ2
                subst hh
                have haP : a < P.length := by omega
                have s2 := hsame a haP
                have s1 : P[a]? = some P[a] := List.getElem?_eq_getElem haP
                by_cases hak : a < k
                · have hne : ¬ P[a] = out[i] := fun hc => k4 a ha1 hak (by rw [s1, hc])
                  have hQ3 : ∀ e', e'.get 11 = .fsl false 3 (out[i].map Step.av) → e'.get 62 = .int .i64 i → e'.get 61 = .int .i64 out.length → e'.get 60 = .fsl false 1 (out.map steps) → e'.get 5 = .fsl false 1 (out.map steps) → e'.get 7 = .fsl false 1 (P.map steps) → e'.get 9 = .int .i64 ((a : Int) + 1) → e'.get 1 = .fsl false 4 (l.map Part.av) → e'.get 2 = .ptr h.next 0 → Q2 e' h2 :=
                    fun e' r1 r2 r3 r4 r5 r6 r7 r8 r9 => hQ2 (k - (a + 1)) e' h2 (by omega) ⟨a + 1, rfl, by omega, by omega, rfl, r1, r2, r3, r4, r5, r6, r7, r8, r9⟩
                  rw [decide_eq_false hne] at s2
                  clear hQ2 hQ' hsame k4
                  repeat' (first | (simp (disch := omega) [go_sem, S4, steps, *]) | (omega) | (with_reducible refine Br_dec (fun hp => ?_) (fun hp => ?_)) | (with_reducible refine Br_not ?_) | (with_reducible refine Br_bool (fun hp => ?_) (fun hp => ?_)) | (with_reducible refine bG_dec (fun hp => ?_) (fun hp => ?_)) | (with_reducible refine bG_bool' (fun hp => ?_) (fun hp => ?_)) | (refine bC_v s2 ?_) | (refine dC_v s2 ?_) | ((with_reducible refine Go_regD _ _ ?hn ?_); case hn => rfl) | ((with_reducible refine Go_regN _ _ ?hn ?_); case hn => rfl) | (with_reducible refine dE_some ?_ ?_) | (with_reducible refine dN_some ?_ ?_) | (with_reducible refine dN_some' ?_ ?_) | ((with_reducible refine Rd_dG ?hn _ _ _ _ _ ?_); case hn => rfl) | (with_reducible refine dG_dec (fun hp => ?_) (fun hp => ?_)) | (with_reducible refine dG_bool' (fun hp => ?_) (fun hp => ?_)) | (with_reducible refine Rd_nil' ?_))
                  exact hQ3 _ (by simp [go_sem, *]) (by simp [go_sem, *]) (by simp [go_sem, *]) (by simp [go_sem, *]) (by simp [go_sem, *]) (by simp [go_sem, *]) (by simp [go_sem, *]) (by simp [go_sem, *]) (by simp [go_sem, *])
                · have hae : a = k := by omega
                  subst hae
                  have heq : P[a] = out[i] := by rw [s1] at k3; injection k3
                  rw [decide_eq_true heq, heq] at s2
                  have hal1 : ¬ (a : Int) = P.length := by omega
                  clear hQ2 hsame k4
                  repeat' (first | (simp (disch := omega) [go_sem, S4, steps, *]) | (omega) | (with_reducible refine Br_dec (fun hp => ?_) (fun hp => ?_)) | (with_reducible refine Br_not ?_) | (with_reducible refine Br_bool (fun hp => ?_) (fun hp => ?_)) | (with_reducible refine bG_dec (fun hp => ?_) (fun hp => ?_)) | (with_reducible refine bG_bool' (fun hp => ?_) (fun hp => ?_)) | (refine bC_v s2 ?_) | (refine dC_v s2 ?_) | ((with_reducible refine Go_regD _ _ ?hn ?_); case hn => rfl) | ((with_reducible refine Go_regN _ _ ?hn ?_); case hn => rfl) | (with_reducible refine dE_some ?_ ?_) | (with_reducible refine dN_some ?_ ?_) | (with_reducible refine dN_some' ?_ ?_) | ((with_reducible refine Rd_dG ?hn _ _ _ _ _ ?_); case hn => rfl) | (with_reducible refine dG_dec (fun hp => ?_) (fun hp => ?_)) | (with_reducible refine dG_bool' (fun hp => ?_) (fun hp => ?_)) | (with_reducible refine Rd_nil' ?_))
                  exact hQ' _ _ (by simp [go_sem, *]) (by simp [go_sem, *]) (by simp [go_sem, *]) (by simp [go_sem, *]) (by simp [go_sem, *]) (by simp [go_sem, *]) (by simp [go_sem, *]) (by simp [go_sem, *]) rfl (Nat.le_refl _)
            · clear hQ hfil
              repeat' (first | (simp (disch := omega) [go_sem, S4, *]) | (omega) | (with_reducible refine Br_dec (fun hp => ?_) (fun hp => ?_)) | (with_reducible refine Br_not ?_) | (with_reducible refine Br_bool (fun hp => ?_) (fun hp => ?_)) | (with_reducible refine bG_dec (fun hp => ?_) (fun hp => ?_)) | (with_reducible refine bG_bool' (fun hp => ?_) (fun hp => ?_)) | ((with_reducible refine Go_regD _ _ ?hn ?_); case hn => rfl) | ((with_reducible refine Go_regN _ _ ?hn ?_); case hn => rfl) | (with_reducible refine dE_some ?_ ?_) | (with_reducible refine dN_some ?_ ?_) | (with_reducible refine dN_some' ?_ ?_) | ((with_reducible refine Rd_dG ?hn _ _ _ _ _ ?_); case hn => rfl) | (with_reducible refine dG_dec (fun hp => ?_) (fun hp => ?_)) | (with_reducible refine dG_bool' (fun hp => ?_) (fun hp => ?_)) | (with_reducible refine Rd_nil' ?_))
              refine Go_loop (fun m e h2 => ∃ i : Nat, m = P.length - i ∧ i ≤ P.length ∧ e.get 14 = .int .i64 (((P.take i).filter p).length : Int) ∧ e.get 104 = .int .i64 i ∧ e.get 103 = .int .i64 P.length ∧ e.get 102 = .fsl false 1 (P.map steps) ∧ e.get 5 = .fsl false 1 (out.map steps) ∧ e.get 1 = .fsl false 4 (l.map Part.av) ∧ e.get 2 = .ptr h.next 0 ∧ h2.get h.next = some (.cells [.fsl false 3 (g.nodes.map Node.av), .int .i64 g.root] 24 (some 0)) ∧ h.next < h2.next) (n := P.length) ?_ ?_
              · refine ⟨0, by omega, by omega, ?_, ?_, ?_, ?_, ?_, ?_, ?_, hgg, hn1⟩ <;> simp (disch := omega) [go_sem, *]
              · clear q62 q60 q61 q5 q7 q9 q1 q2 hgg hn1 e h1
                rintro m e h1 ⟨i, rfl, hi, q14, q104, q103, q102, q5, q1, q2, hgg, hn1⟩ Q hQ
                by_cases hlt : i < P.length
                · have hx : P[i]? = some P[i] := List.getElem?_eq_getElem hlt
                  have hmem : P[i] ∈ P := List.getElem_mem hlt
                  have hmj := hmc P[i]
                  rw [hA.mat _ hmem] at hmj
                  have hsh := hA.short _ hmem
                  have hgj : ∀ j, j < P[i].length → Puv 24 [.agg [.fsl false 3 (g.nodes.map Node.av), .int .i64 g.root], steps (P[i].take (j + 1))] (.tup [.int .i64 (nodeAt g P[i] (j + 1)), .int .i64 0]) := fun j hj => by
                    have := hgt (P[i].take (j + 1))
                    rw [hA.get _ hmem (j + 1) (by omega)] at this
                    exact this
                  have honce := hA.once _ hmem
                  have hroot := hA.root _ hmem
                  have hcnt : ((P.take (i + 1)).filter p).length = ((P.take i).filter p).length + (if p P[i] = true then 1 else 0) := by
                    rw [take_snoc P i hlt, List.filter_append, List.length_append, List.filter_cons, List.filter_nil]
                    split <;> rfl
                  have hcl : ((P.take i).filter p).length ≤ P.length := Nat.le_trans (List.length_filter_le _ _) (by simp; omega)
                  have hQ' : ∀ n : Nat, n = ((P.take (i + 1)).filter p).length → ∀ e' h', e'.get 14 = .int .i64 (n : Int) → e'.get 104 = .int .i64 ((i : Int) + 1) → e'.get 103 = .int .i64 P.length → e'.get 102 = .fsl false 1 (P.map steps) → e'.get 5 = .fsl false 1 (out.map steps) → e'.get 1 = .fsl false 4 (l.map Part.av) → e'.get 2 = .ptr h.next 0 → h'.get h.next = h1.get h.next → h1.next ≤ h'.next → Q e' h' :=
                    fun n hn e' h' r1 r2 r3 r4 r5 r6 r7 r8 r9 => hQ (P.length - (i + 1)) e' h' (by omega) ⟨i + 1, rfl, by omega, by rw [← hn]; exact r1, r2, r3, r4, r5, r6, r7, by rw [r8]; exact hgg, by omega⟩
                  clear hQ hA hout hmc hgt hfd hfa
                  unfold steps at hmj hgj
                  generalize ((P.take i).filter p).length = c at *
                  cases hpi : p P[i] with
                  | true =>
                    rw [hpi] at hmj hcnt
                    have hQ2 := hQ' (c + 1) (by rw [hcnt]; rfl)
                    clear hQ' hcnt
                    repeat' (first | (simp (disch := omega) [go_sem, S4, parts, steps, up_inil, up_ikey, *]) | (omega) | (with_reducible refine Br_dec (fun hp => ?_) (fun hp => ?_)) | (with_reducible refine Br_not ?_) | (with_reducible refine Br_bool (fun hp => ?_) (fun hp => ?_)) | (with_reducible refine bG_dec (fun hp => ?_) (fun hp => ?_)) | (with_reducible refine bG_bool' (fun hp => ?_) (fun hp => ?_)) | (refine dC_pure hta fun v hv => ?_; subst hv) | (refine dC_v hmj ?_) | ((with_reducible refine Go_regD _ _ ?hn ?_); case hn => rfl) | ((with_reducible refine Go_regN _ _ ?hn ?_); case hn => rfl) | (with_reducible refine dE_some ?_ ?_) | (with_reducible refine dN_some ?_ ?_) | (with_reducible refine dN_some' ?_ ?_) | ((with_reducible refine Rd_dG ?hn _ _ _ _ _ ?_); case hn => rfl) | (with_reducible refine dG_dec (fun hp => ?_) (fun hp => ?_)) | (with_reducible refine dG_bool' (fun hp => ?_) (fun hp => ?_)) | (with_reducible refine Rd_nil' ?_))
                    refine Go_loop (fun m e h2 => ∃ (j : Nat) (mm : List (Int × Bool)), m = P[i].length - j ∧ j ≤ P[i].length ∧ (∀ y, (getA y mm).getD false = true → ∃ q, q ≤ j ∧ y = nodeAt g P[i] q) ∧ e.get 127 = .int .i64 j ∧ e.get 126 = .int .i64 P[i].length ∧ e.get 19 = .map h1.next ∧ e.get 16 = .fsl false 3 (P[i].map Step.av) ∧ e.get 14 = .int .i64 (((c + 1 : Nat) : Int) : Int) ∧ e.get 104 = .int .i64 i ∧ e.get 103 = .int .i64 P.length ∧ e.get 102 = .fsl false 1 (P.map steps) ∧ e.get 5 = .fsl false 1 (out.map steps) ∧ e.get 1 = .fsl false 4 (l.map Part.av) ∧ e.get 2 = .ptr h.next 0 ∧ h2.get h1.next = some (.map (encM ikey AV.bool mm)) ∧ h2.get h.next = some (.cells [.fsl false 3 (g.nodes.map Node.av), .int .i64 g.root] 24 (some 0)) ∧ h1.next < h2.next) (n := P[i].length) ?_ ?_
                    · refine ⟨0, [(g.root, true)], by omega, by omega, ?_, ?_, ?_, ?_, ?_, ?_, ?_, ?_, ?_, ?_, ?_, ?_, ?_, ?_, ?_⟩
                      · intro y hy
                        refine ⟨0, Nat.le_refl _, ?_⟩
                        rw [hroot]
                        simp only [getA] at hy
                        split at hy
                        · assumption
                        · cases hy
                      all_goals simp (disch := omega) [go_sem, *]
                      all_goals first | rfl | omega | skip
                    · clear q14 q104 q103 q102 q5 q1 q2 e
                      rintro m e h2 ⟨j, mm, rfl, hj, hmm, q127, q126, q19, q16, q14, q104, q103, q102, q5, q1, q2, hgm, hgg2, hn2⟩ Q2 hQ3
                      by_cases hjt : j < P[i].length
                      · have hgj2 := hgj j hjt
                        have hno : (getA (nodeAt g P[i] (j + 1)) mm).getD false = false := by
                          cases hc : (getA (nodeAt g P[i] (j + 1)) mm).getD false with
                          | false => rfl
                          | true =>
                            obtain ⟨q, hq1, hq2⟩ := hmm _ hc
                            exact absurd hq2.symm (honce q (j + 1) (by omega) (by omega))
                        have hQ4 : ∀ e' h', e'.get 127 = .int .i64 ((j : Int) + 1) → e'.get 126 = .int .i64 P[i].length → e'.get 19 = .map h1.next → e'.get 16 = .fsl false 3 (P[i].map Step.av) → e'.get 14 = .int .i64 (((c + 1 : Nat) : Int) : Int) → e'.get 104 = .int .i64 i → e'.get 103 = .int .i64 P.length → e'.get 102 = .fsl false 1 (P.map steps) → e'.get 5 = .fsl false 1 (out.map steps) → e'.get 1 = .fsl false 4 (l.map Part.av) → e'.get 2 = .ptr h.next 0 → h'.get h1.next = some (.map (encM ikey AV.bool (putA (nodeAt g P[i] (j + 1)) true mm))) → h'.get h.next = h2.get h.next → h2.next ≤ h'.next → Q2 e' h' :=
                          fun e' h' r1 r2 r3 r4 r5 r6 r7 r8 r9 r10 r11 r12 r13 r14 => hQ3 (P[i].length - (j + 1)) e' h' (by omega) ⟨j + 1, _, rfl, by omega, fun y hy => by
                            rw [getA_put] at hy
                            split at hy
                            · exact ⟨j + 1, Nat.le_refl _, by assumption⟩
                            · obtain ⟨q, hq1, hq2⟩ := hmm y hy
                              exact ⟨q, by omega, hq2⟩, r1, r2, r3, r4, r5, r6, r7, r8, r9, r10, r11, r12, by rw [r13]; exact hgg2, by omega⟩
                        have hj1 : ((j : Int) + 1).toNat = j + 1 := by omega
                        rw [List.map_take] at hgj2
                        clear hQ3 hQ2 hgj hmm honce
                        generalize nodeAt g P[i] (j + 1) = nd at *
                        repeat' (first | (simp (disch := omega) [go_sem, S4, lk_ikey, up_ikey, *]) | (omega) | (with_reducible refine Br_dec (fun hp => ?_) (fun hp => ?_)) | (with_reducible refine Br_not ?_) | (with_reducible refine Br_bool (fun hp => ?_) (fun hp => ?_)) | (with_reducible refine bG_dec (fun hp => ?_) (fun hp => ?_)) | (with_reducible refine bG_bool' (fun hp => ?_) (fun hp => ?_)) | (refine dC_v hgj2 ?_) | ((with_reducible refine Go_regD _ _ ?hn ?_); case hn => rfl) | ((with_reducible refine Go_regN _ _ ?hn ?_); case hn => rfl) | (with_reducible refine dE_some ?_ ?_) | (with_reducible refine dN_some ?_ ?_) | (with_reducible refine dN_some' ?_ ?_) | ((with_reducible refine Rd_dG ?hn _ _ _ _ _ ?_); case hn => rfl) | (with_reducible refine dG_dec (fun hp => ?_) (fun hp => ?_)) | (with_reducible refine dG_bool' (fun hp => ?_) (fun hp => ?_)) | (with_reducible refine Rd_nil' ?_))
                        refine hQ4 _ _ ?_ ?_ ?_ ?_ ?_ ?_ ?_ ?_ ?_ ?_ ?_ ?_ ?_ ?_ <;> simp (disch := omega) [go_sem, *]
                      · clear hQ3 hgj
                        repeat' (first | (simp (disch := omega) [go_sem, S4, *]) | (omega) | (with_reducible refine Br_dec (fun hp => ?_) (fun hp => ?_)) | (with_reducible refine Br_not ?_) | (with_reducible refine Br_bool (fun hp => ?_) (fun hp => ?_)) | (with_reducible refine bG_dec (fun hp => ?_) (fun hp => ?_)) | (with_reducible refine bG_bool' (fun hp => ?_) (fun hp => ?_)) | ((with_reducible refine Go_regD _ _ ?hn ?_); case hn => rfl) | ((with_reducible refine Go_regN _ _ ?hn ?_); case hn => rfl) | (with_reducible refine dE_some ?_ ?_) | (with_reducible refine dN_some ?_ ?_) | (with_reducible refine dN_some' ?_ ?_) | ((with_reducible refine Rd_dG ?hn _ _ _ _ _ ?_); case hn => rfl) | (with_reducible refine dG_dec (fun hp => ?_) (fun hp => ?_)) | (with_reducible refine dG_bool' (fun hp => ?_) (fun hp => ?_)) | (with_reducible refine Rd_nil' ?_))
                        refine hQ2 _ _ ?_ ?_ ?_ ?_ ?_ ?_ ?_ ?_ ?_ <;> first | (simp (disch := omega) [go_sem, *]; done) | omega
                  | false =>
                    rw [hpi] at hmj hcnt
                    have hQ2 := hQ' c (by rw [hcnt]; rfl)
                    clear hQ' hcnt
                    repeat' (first | (simp (disch := omega) [go_sem, S4, parts, steps, up_inil, up_ikey, *]) | (omega) | (with_reducible refine Br_dec (fun hp => ?_) (fun hp => ?_)) | (with_reducible refine Br_not ?_) | (with_reducible refine Br_bool (fun hp => ?_) (fun hp => ?_)) | (with_reducible refine bG_dec (fun hp => ?_) (fun hp => ?_)) | (with_reducible refine bG_bool' (fun hp => ?_) (fun hp => ?_)) | (refine dC_pure hta fun v hv => ?_; subst hv) | (refine dC_v hmj ?_) | ((with_reducible refine Go_regD _ _ ?hn ?_); case hn => rfl) | ((with_reducible refine Go_regN _ _ ?hn ?_); case hn => rfl) | (with_reducible refine dE_some ?_ ?_) | (with_reducible refine dN_some ?_ ?_) | (with_reducible refine dN_some' ?_ ?_) | ((with_reducible refine Rd_dG ?hn _ _ _ _ _ ?_); case hn => rfl) | (with_reducible refine dG_dec (fun hp => ?_) (fun hp => ?_)) | (with_reducible refine dG_bool' (fun hp => ?_) (fun hp => ?_)) | (with_reducible refine Rd_nil' ?_))
                    refine Go_loop (fun m e h2 => ∃ (j : Nat) (mm : List (Int × Bool)), m = P[i].length - j ∧ j ≤ P[i].length ∧ (∀ y, (getA y mm).getD false = true → ∃ q, q ≤ j ∧ y = nodeAt g P[i] q) ∧ e.get 127 = .int .i64 j ∧ e.get 126 = .int .i64 P[i].length ∧ e.get 19 = .map h1.next ∧ e.get 16 = .fsl false 3 (P[i].map Step.av) ∧ e.get 14 = .int .i64 (c : Int) ∧ e.get 104 = .int .i64 i ∧ e.get 103 = .int .i64 P.length ∧ e.get 102 = .fsl false 1 (P.map steps) ∧ e.get 5 = .fsl false 1 (out.map steps) ∧ e.get 1 = .fsl false 4 (l.map Part.av) ∧ e.get 2 = .ptr h.next 0 ∧ h2.get h1.next = some (.map (encM ikey AV.bool mm)) ∧ h2.get h.next = some (.cells [.fsl false 3 (g.nodes.map Node.av), .int .i64 g.root] 24 (some 0)) ∧ h1.next < h2.next) (n := P[i].length) ?_ ?_
                    · refine ⟨0, [(g.root, true)], by omega, by omega, ?_, ?_, ?_, ?_, ?_, ?_, ?_, ?_, ?_, ?_, ?_, ?_, ?_, ?_, ?_⟩
                      · intro y hy
                        refine ⟨0, Nat.le_refl _, ?_⟩
                        rw [hroot]
                        simp only [getA] at hy
                        split at hy
                        · assumption
                        · cases hy
                      all_goals simp (disch := omega) [go_sem, *]
                      all_goals first | rfl | omega | skip
                    · clear q14 q104 q103 q102 q5 q1 q2 e
                      rintro m e h2 ⟨j, mm, rfl, hj, hmm, q127, q126, q19, q16, q14, q104, q103, q102, q5, q1, q2, hgm, hgg2, hn2⟩ Q2 hQ3
                      by_cases hjt : j < P[i].length
                      · have hgj2 := hgj j hjt
                        have hno : (getA (nodeAt g P[i] (j + 1)) mm).getD false = false := by
                          cases hc : (getA (nodeAt g P[i] (j + 1)) mm).getD false with
                          | false => rfl
                          | true =>
                            obtain ⟨q, hq1, hq2⟩ := hmm _ hc
                            exact absurd hq2.symm (honce q (j + 1) (by omega) (by omega))
                        have hQ4 : ∀ e' h', e'.get 127 = .int .i64 ((j : Int) + 1) → e'.get 126 = .int .i64 P[i].length → e'.get 19 = .map h1.next → e'.get 16 = .fsl false 3 (P[i].map Step.av) → e'.get 14 = .int .i64 (c : Int) → e'.get 104 = .int .i64 i → e'.get 103 = .int .i64 P.length → e'.get 102 = .fsl false 1 (P.map steps) → e'.get 5 = .fsl false 1 (out.map steps) → e'.get 1 = .fsl false 4 (l.map Part.av) → e'.get 2 = .ptr h.next 0 → h'.get h1.next = some (.map (encM ikey AV.bool (putA (nodeAt g P[i] (j + 1)) true mm))) → h'.get h.next = h2.get h.next → h2.next ≤ h'.next → Q2 e' h' :=
                          fun e' h' r1 r2 r3 r4 r5 r6 r7 r8 r9 r10 r11 r12 r13 r14 => hQ3 (P[i].length - (j + 1)) e' h' (by omega) ⟨j + 1, _, rfl, by omega, fun y hy => by
                            rw [getA_put] at hy
                            split at hy
                            · exact ⟨j + 1, Nat.le_refl _, by assumption⟩
                            · obtain ⟨q, hq1, hq2⟩ := hmm y hy
                              exact ⟨q, by omega, hq2⟩, r1, r2, r3, r4, r5, r6, r7, r8, r9, r10, r11, r12, by rw [r13]; exact hgg2, by omega⟩
                        have hj1 : ((j : Int) + 1).toNat = j + 1 := by omega
                        rw [List.map_take] at hgj2
                        clear hQ3 hQ2 hgj hmm honce
                        generalize nodeAt g P[i] (j + 1) = nd at *
                        repeat' (first | (simp (disch := omega) [go_sem, S4, lk_ikey, up_ikey, *]) | (omega) | (with_reducible refine Br_dec (fun hp => ?_) (fun hp => ?_)) | (with_reducible refine Br_not ?_) | (with_reducible refine Br_bool (fun hp => ?_) (fun hp => ?_)) | (with_reducible refine bG_dec (fun hp => ?_) (fun hp => ?_)) | (with_reducible refine bG_bool' (fun hp => ?_) (fun hp => ?_)) | (refine dC_v hgj2 ?_) | ((with_reducible refine Go_regD _ _ ?hn ?_); case hn => rfl) | ((with_reducible refine Go_regN _ _ ?hn ?_); case hn => rfl) | (with_reducible refine dE_some ?_ ?_) | (with_reducible refine dN_some ?_ ?_) | (with_reducible refine dN_some' ?_ ?_) | ((with_reducible refine Rd_dG ?hn _ _ _ _ _ ?_); case hn => rfl) | (with_reducible refine dG_dec (fun hp => ?_) (fun hp => ?_)) | (with_reducible refine dG_bool' (fun hp => ?_) (fun hp => ?_)) | (with_reducible refine Rd_nil' ?_))
                        refine hQ4 _ _ ?_ ?_ ?_ ?_ ?_ ?_ ?_ ?_ ?_ ?_ ?_ ?_ ?_ ?_ <;> simp (disch := omega) [go_sem, *]
                      · clear hQ3 hgj
                        repeat' (first | (simp (disch := omega) [go_sem, S4, *]) | (omega) | (with_reducible refine Br_dec (fun hp => ?_) (fun hp => ?_)) | (with_reducible refine Br_not ?_) | (with_reducible refine Br_bool (fun hp => ?_) (fun hp => ?_)) | (with_reducible refine bG_dec (fun hp => ?_) (fun hp => ?_)) | (with_reducible refine bG_bool' (fun hp => ?_) (fun hp => ?_)) | ((with_reducible refine Go_regD _ _ ?hn ?_); case hn => rfl) | ((with_reducible refine Go_regN _ _ ?hn ?_); case hn => rfl) | (with_reducible refine dE_some ?_ ?_) | (with_reducible refine dN_some ?_ ?_) | (with_reducible refine dN_some' ?_ ?_) | ((with_reducible refine Rd_dG ?hn _ _ _ _ _ ?_); case hn => rfl) | (with_reducible refine dG_dec (fun hp => ?_) (fun hp => ?_)) | (with_reducible refine dG_bool' (fun hp => ?_) (fun hp => ?_)) | (with_reducible refine Rd_nil' ?_))
                        refine hQ2 _ _ ?_ ?_ ?_ ?_ ?_ ?_ ?_ ?_ ?_ <;> first | (simp (disch := omega) [go_sem, *]; done) | omega
                · clear hQ hA hmc hgt hfd hfa
                  rw [List.take_of_length_le (by omega), hout] at q14
                  repeat' (first | (simp (disch := omega) [go_sem, S4, *]) | (omega) | (with_reducible refine Br_dec (fun hp => ?_) (fun hp => ?_)) | (with_reducible refine Br_not ?_) | (with_reducible refine Br_bool (fun hp => ?_) (fun hp => ?_)) | (with_reducible refine bG_dec (fun hp => ?_) (fun hp => ?_)) | (with_reducible refine bG_bool' (fun hp => ?_) (fun hp => ?_)) | (refine bC_v hal ?_) | ((with_reducible refine Go_regD _ _ ?hn ?_); case hn => rfl) | ((with_reducible refine Go_regN _ _ ?hn ?_); case hn => rfl) | (with_reducible refine dE_some ?_ ?_) | (with_reducible refine dN_some ?_ ?_) | (with_reducible refine dN_some' ?_ ?_) | ((with_reducible refine Rd_dG ?hn _ _ _ _ _ ?_); case hn => rfl) | (with_reducible refine dG_dec (fun hp => ?_) (fun hp => ?_)) | (with_reducible refine dG_bool' (fun hp => ?_) (fun hp => ?_)) | (with_reducible refine Rd_nil' ?_))
        · clear hF he
          rw [d1] at hfd
          unfold ways at hfd hfa
          generalize foundR g l = F at *
          generalize foundR g deepL = D at *
          repeat' (first | (simp (disch := omega) [go_sem, S4, Graph.av, Graph.cells, parts, *]) | (omega) | (with_reducible refine Br_dec (fun hp => ?_) (fun hp => ?_)) | (with_reducible refine Br_not ?_) | (with_reducible refine Br_bool (fun hp => ?_) (fun hp => ?_)) | (with_reducible refine bG_dec (fun hp => ?_) (fun hp => ?_)) | (with_reducible refine bG_bool' (fun hp => ?_) (fun hp => ?_)) | (refine bC_v hlg ?_) | (refine bC_v hla ?_) | (refine bC_v hal ?_) | (refine dC_pure hta fun v hv => ?_; subst hv) | (refine dC_pure hfd fun v hv => ?_; subst hv) | (refine bC_spec (hfa _ _ ⟨.fsl true 4 [.agg [.int .i64 3, .str [], .str [], .int .i64 0]], by simp (disch := omega) [go_sem, fzS, sub, chunks, mkE, AV.cells], Le.fsl _ _ _⟩) fun v h2 hv => ?_; obtain ⟨rfl, hh⟩ := hv; subst h2) | ((with_reducible refine Go_regD _ _ ?hn ?_); case hn => rfl) | ((with_reducible refine Go_regN _ _ ?hn ?_); case hn => rfl) | (with_reducible refine dE_some ?_ ?_) | (with_reducible refine dN_some ?_ ?_) | (with_reducible refine dN_some' ?_ ?_) | ((with_reducible refine Rd_dG ?hn _ _ _ _ _ ?_); case hn => rfl) | (with_reducible refine dG_dec (fun hp => ?_) (fun hp => ?_)) | (with_reducible refine dG_bool' (fun hp => ?_) (fun hp => ?_)) | (with_reducible refine Rd_nil' ?_))
      · have he := he d1
        clear hF
        rw [he] at hfd
        unfold ways at hfd hfa
        generalize foundR g l = F at *
        generalize foundR g deepL = D at *
        repeat' (first | (simp (disch := omega) [go_sem, S4, Graph.av, Graph.cells, parts, *]) | (omega) | (with_reducible refine Br_dec (fun hp => ?_) (fun hp => ?_)) | (with_reducible refine Br_not ?_) | (with_reducible refine Br_bool (fun hp => ?_) (fun hp => ?_)) | (with_reducible refine bG_dec (fun hp => ?_) (fun hp => ?_)) | (with_reducible refine bG_bool' (fun hp => ?_) (fun hp => ?_)) | (refine bC_v hlg ?_) | (refine bC_v hla ?_) | (refine bC_v hal ?_) | (refine dC_pure hta fun v hv => ?_; subst hv) | (refine dC_pure hfd fun v hv => ?_; subst hv) | (refine bC_spec (hfa _ _ ⟨.fsl true 4 [.agg [.int .i64 3, .str [], .str [], .int .i64 0]], by simp (disch := omega) [go_sem, fzS, sub, chunks, mkE, AV.cells], Le.fsl _ _ _⟩) fun v h2 hv => ?_; obtain ⟨rfl, hh⟩ := hv; subst h2) | ((with_reducible refine Go_regD _ _ ?hn ?_); case hn => rfl) | ((with_reducible refine Go_regN _ _ ?hn ?_); case hn => rfl) | (with_reducible refine dE_some ?_ ?_) | (with_reducible refine dN_some ?_ ?_) | (with_reducible refine dN_some' ?_ ?_) | ((with_reducible refine Rd_dG ?hn _ _ _ _ _ ?_); case hn => rfl) | (with_reducible refine dG_dec (fun hp => ?_) (fun hp => ?_)) | (with_reducible refine dG_bool' (fun hp => ?_) (fun hp => ?_)) | (with_reducible refine Rd_nil' ?_))
end Go.Eng.Tryz
