/- The law QueryAll of package grommetlaw24 answers true and turns no argument, for all arguments that are together of bulk at most 1048576; condition: the listed package variables start as the program's text lays them. (part 18.) -/
import Derived.Test.YthcjadhoplakcaaGreatDoorAll17
import Derived.Test.YthcjadhoplakcaaGreatDoorCards
import Derived.Test.YthcjadhoplakcaaGreatDoorTie
import Derived.WalkKit
import Derived.ProofKit
import Derived.OpenShut
import Derived.Deep.DeepWitnessRowRef
import Derived.Deep.Slices
import Derived.WideKeyArgs
import Derived.Lib.LaidTab
set_option linter.unusedSimpArgs false
set_option linter.unusedVariables false
set_option maxRecDepth 20000
set_option maxHeartbeats 1000000
namespace Go.Eng.Tryz
open Go.Eng Go.Proofs Go.RowKit Go.ChangeShapes Go.WideShapes
/-! ### arguments -/
theorem val_of {s : Go.Eng.St} {w : World} {e : AV} {cs : List Value} (he : e.elt = true) (h : VRs s w e.cells cs) (hl : ∀ c ∈ e.cells, c.leaf = true) : ∃ r, VR s w e r ∧ r.cells.toList = cs := by
  have hl' : e.leaf = true ∨ ∃ es, e = .agg es := by
    cases e <;> first | (exact Or.inl rfl) | (cases he; done) | (exact Or.inr ⟨_, rfl⟩)
  rcases hl' with h1 | ⟨es, rfl⟩
  · have hc : e.cells = [e] := by cases e <;> first | rfl | cases h1
    rw [hc] at h
    simp only [VRs] at h
    obtain ⟨r, rs, rfl, h2, rfl⟩ := h
    have h3 := VR_oneCell h2 h1
    refine ⟨r, h2, ?_⟩
    cases r <;> first | rfl | cases h3
  · refine ⟨.agg cs.toArray, ?_, by simp [Value.cells]⟩
    simp only [VR]
    exact ⟨cs.toArray, rfl, by simpa [AV.cells] using h, hl⟩
def s0 (w : World) : Go.Eng.St := ⟨fun _ => none, fun b => b < w.heap.size, U0, 0⟩
section
variable {H : Type} {enc : TypeId × Value → H} {w : World}
def Reads (enc : TypeId × Value → H) (w : World) (n : Nat) (t : TypeId) {α : Type} (av : α → AV) (ms : α → Nat) (ok : α → Prop) : Prop :=
  ∀ fuel cs x, fuel < n → DataW.trod enc Go.Proofs.Tryz.prog w 0 (fun _ => true) true fuel t cs = some x → ∃ y : α, ok y ∧ VRs (s0 w) w (av y).cells cs ∧ (∀ c ∈ (av y).cells, c.leaf = true) ∧ (av y).elt = true ∧ ms y ≤ YthcjadhoplakcaaGreatDoor.Rows.uptoBulk x.1
theorem Reads.int {n : Nat} {t : TypeId} {k : IntKind} (ht : Go.Proofs.Tryz.prog.underlying t = some (.int k)) : Reads enc w n t (fun i : Int => .int k i) (fun _ => 1) (fun i => (Lit.int k i).wf = true) := by
  intro fuel cs x _ h
  obtain ⟨i, rfl, rfl, hw⟩ := DataW.trod_int ht h
  refine ⟨i, hw, ?_, by simp [AV.cells, AV.leaf], rfl, by simp [YthcjadhoplakcaaGreatDoor.Rows.uptoBulk]⟩
  simp only [AV.cells, VRs, VR]
  exact ⟨_, _, rfl, rfl, rfl⟩
theorem Reads.bool {n : Nat} {t : TypeId} (ht : Go.Proofs.Tryz.prog.underlying t = some .bool) : Reads enc w n t AV.bool (fun _ => 1) (fun _ => True) := by
  intro fuel cs x _ h
  obtain ⟨i, rfl, rfl⟩ := DataW.trod_bool ht h
  refine ⟨i, trivial, ?_, by simp [AV.cells, AV.leaf], rfl, by simp [YthcjadhoplakcaaGreatDoor.Rows.uptoBulk]⟩
  simp only [AV.cells, VRs, VR]
  exact ⟨_, _, rfl, rfl, rfl⟩
theorem Reads.str {n : Nat} {t : TypeId} (ht : Go.Proofs.Tryz.prog.underlying t = some .string) : Reads enc w n t AV.str (fun s => s.length + 1) (fun s => ∀ x ∈ s, x < 256) := by
  intro fuel cs x _ h
  obtain ⟨b, rfl, rfl, hw⟩ := DataW.trod_string ht h
  refine ⟨b.data.toList.map UInt8.toNat, ?_, ?_, by simp [AV.cells, AV.leaf], rfl, by simp [YthcjadhoplakcaaGreatDoor.Rows.uptoBulk]⟩
  · intro x hx
    obtain ⟨c, _, rfl⟩ := List.mem_map.1 hx
    exact c.toNat_lt
  · simp only [AV.cells, VRs, VR]
    exact ⟨_, _, rfl, ⟨b, rfl, rfl⟩, rfl⟩
theorem bulk_map {β : Type} (D : Nat → DataW H) (ms : β → Nat) : ∀ (n : Nat) (f : Nat → β), (∀ i, i < n → ms (f i) ≤ YthcjadhoplakcaaGreatDoor.Rows.uptoBulk (D i)) → (((List.range n).map f).map ms).sum ≤ YthcjadhoplakcaaGreatDoor.Rows.uptoBulkAll ((List.range n).map D)
  | 0, _, _ => by simp
  | n + 1, f, h => by
    have ih := bulk_map D ms n f (fun i hi => h i (by omega))
    have h1 := h n (by omega)
    rw [List.range_succ]
    have happ : ∀ (l r : List (DataW H)), YthcjadhoplakcaaGreatDoor.Rows.uptoBulkAll (l ++ r) = YthcjadhoplakcaaGreatDoor.Rows.uptoBulkAll l + YthcjadhoplakcaaGreatDoor.Rows.uptoBulkAll r := by
      intro l r
      induction l with
      | nil => simp [YthcjadhoplakcaaGreatDoor.Rows.uptoBulkAll]
      | cons x l ih => simp only [List.cons_append, YthcjadhoplakcaaGreatDoor.Rows.uptoBulkAll, ih]; omega
    simp only [List.map_append, List.map_cons, List.map_nil, List.sum_append, List.sum_cons, List.sum_nil, happ, YthcjadhoplakcaaGreatDoor.Rows.uptoBulkAll]
    omega
theorem holds_of {a : Addr} {n : Nat} {cs : List Value} (h : w.cells? 0 a n = some cs) : Holds w a cs ∧ cs.length = n := by
  unfold World.cells? at h
  rw [if_pos (Nat.zero_le _)] at h
  have hl : cs.length = n := by simpa using Lib.mapM_length h
  refine ⟨fun j v hv => ?_, hl⟩
  have hj : j < n := by have := (List.getElem?_eq_some_iff.1 hv).1; omega
  obtain ⟨b, h1, h2⟩ := Lib.mapM_at h j j (by simp [hj])
  rw [hv] at h1
  injection h1 with h1; subst h1
  exact h2
theorem cell_facts {a : Addr} {v : Value} (h : w.cell? a = some v) : a.spot = none ∧ a.block < w.heap.size := by
  unfold World.cell? at h
  split at h
  · rename_i c t f hb
    refine ⟨?_, (Array.getElem?_eq_some_iff.1 hb).1⟩
    cases hs : a.spot with
    | none => rfl
    | some k => rw [hs] at h; simp at h
  · cases h
theorem Reads.slice {n : Nat} {t e : TypeId} {sz : Nat} {β : Type} [Inhabited β] {av : β → AV} {ms : β → Nat} {ok : β → Prop} (ht : Go.Proofs.Tryz.prog.underlying t = some (.slice e)) (hsz : Go.Proofs.Tryz.prog.cellsOf e = sz) (h0 : sz ≠ 0) (he : Reads enc w n e av ms ok) :
    Reads enc w (n + 1) t (fun l : List β => .fsl false sz (l.map av)) (fun l => (l.map ms).sum + 1) (fun l => ∀ y ∈ l, ok y) := by
  intro fuel cs x hf h
  have hnn : fuel ≠ 0 := by rintro rfl; simp [DataW.trod] at h
  have hst := DataW.trod_slice ht h
  rcases hst with ⟨rfl, rfl⟩ | ⟨a, len, cap, elems, rest, m, hfm, rfl, rfl, hb, hl, hm, hlen, hel, hsp, hns⟩
  · refine ⟨[], by simp, ?_, by simp [AV.cells, AV.leaf], rfl, by simp [YthcjadhoplakcaaGreatDoor.Rows.uptoBulk]⟩
    simp only [AV.cells, VRs]
    refine ⟨_, _, rfl, ?_, rfl⟩
    unfold VR
    exact ⟨none, 0, rfl, Nat.le_refl _, (fun e => nomatch e), .inl rfl⟩
  · have hall : ∀ i, i < len → ∃ p : β × Value, ok p.1 ∧ VR (s0 w) w (av p.1) p.2 ∧ (av p.1).elt = true ∧ p.2.cells.size = sz ∧ Holds w (a.add (i * sz)) p.2.cells.toList ∧ ∃ z, elems[i]? = some z ∧ ms p.1 ≤ YthcjadhoplakcaaGreatDoor.Rows.uptoBulk z.1 := by
      intro i hi
      have hz := hel i hi
      rw [List.getElem?_eq_getElem (by omega)] at hz
      obtain ⟨cs', h1, h2⟩ := Option.bind_eq_some_iff.1 hz
      obtain ⟨y, k1, k2, k3, k4, k5⟩ := he m cs' _ (by omega) h2
      obtain ⟨r, r1, r2⟩ := val_of k4 k2 k3
      rw [hsz] at h1
      obtain ⟨q1, q2⟩ := holds_of h1
      refine ⟨(y, r), k1, r1, k4, by rw [← Array.length_toList, r2, q2], by rw [r2]; exact q1, _, List.getElem?_eq_getElem (by omega), k5⟩
    obtain ⟨F, hF⟩ := Deep.choose_lt hall
    refine ⟨(List.range len).map fun i => (F i).1, ?_, ?_, by simp [AV.cells, AV.leaf], rfl, ?_⟩
    · intro y hy
      obtain ⟨i, hi, rfl⟩ := List.mem_map.1 hy
      exact (hF i (by simpa using hi)).1
    · simp only [AV.cells, VRs]
      refine ⟨_, _, rfl, ?_, rfl⟩
      unfold VR
      refine ⟨some a, cap, by simp, by simpa using hl, (fun e => nomatch e), ?_⟩
      by_cases hl0 : len = 0
      · subst hl0; exact .inl (by simp)
      · refine .inr ⟨a, (List.range len).map fun i => (F i).2, rfl, VRs_of (by simp) fun i c r hc hr => ?_, ?_, ?_, ?_, fun c hc => ?_, fun i r hr => ?_⟩
        · have hi : i < len := by have := (List.getElem?_eq_some_iff.1 hr).1; simpa using this
          simp [hi] at hc hr
          subst hc; subst hr
          exact (hF i hi).2.1
        all_goals try
          have h1 := hF 0 (by omega)
          have h2 := h1.2.2.2.2.1
          have h3 : 0 < (F 0).2.cells.toList.length := by rw [Array.length_toList, h1.2.2.2.1]; omega
          have h4 := h2 0 _ (List.getElem?_eq_getElem h3)
          have h5 := cell_facts h4
          simp [Addr.add] at h5
        · exact h5.2
        · exact h5.2
        · exact h5.1
        · obtain ⟨y, hy, rfl⟩ := List.mem_map.1 hc
          obtain ⟨i, hi, rfl⟩ := List.mem_map.1 hy
          exact (hF i (by simpa using hi)).2.2.1
        · have hi : i < len := by have := (List.getElem?_eq_some_iff.1 hr).1; simpa using this
          simp [hi] at hr
          subst hr
          exact ⟨(hF i hi).2.2.2.1, (hF i hi).2.2.2.2.1⟩
    · have hb2 := bulk_map (fun i => (elems.map (·.1)).getD i .nil) ms len (fun i => (F i).1) fun i hi => by
        obtain ⟨z, hz, hk⟩ := (hF i hi).2.2.2.2.2
        simpa [List.getD, hz] using hk
      have e : (List.range len).map (fun i => (elems.map (·.1)).getD i .nil) = elems.map (·.1) := by
        apply List.ext_getElem?
        intro i
        by_cases hi : i < len
        · simp [hi, List.getD, hlen]
        · simp [hi, hlen]
      rw [e] at hb2
      simp only [YthcjadhoplakcaaGreatDoor.Rows.uptoBulk]
      omega
theorem piece (l : List Value) (a b : Nat) : (l.drop a).take b ++ l.drop (a + b) = l.drop a := by
  rw [← List.drop_drop]
  exact List.take_append_drop _ _
theorem cut2 {l : List Value} {a b : Nat} (h : l.length = a + b) : (l.drop 0).take a ++ (l.drop a).take b = l := by
  rw [List.take_of_length_le (l := l.drop a) (by simp; omega), List.drop_zero]
  exact List.take_append_drop _ _
theorem Reads.struct2 {n : Nat} {t : TypeId} {f0 f1 : Field} {α β0 β1 : Type} {av : α → AV} {ms : α → Nat} {ok : α → Prop} {av0 : β0 → AV} {ms0 : β0 → Nat} {ok0 : β0 → Prop} {av1 : β1 → AV} {ms1 : β1 → Nat} {ok1 : β1 → Prop} (mk : β0 → β1 → α)
    (ht : Go.Proofs.Tryz.prog.underlying t = some (.struct #[f0, f1])) (ho : (f0.offset, f1.offset, Go.Proofs.Tryz.prog.cellsOf t) = (0, Go.Proofs.Tryz.prog.cellsOf f0.type, Go.Proofs.Tryz.prog.cellsOf f0.type + Go.Proofs.Tryz.prog.cellsOf f1.type))
    (h0 : Reads enc w n f0.type av0 ms0 ok0) (h1 : Reads enc w n f1.type av1 ms1 ok1)
    (hav : ∀ a b, av (mk a b) = .agg ((av0 a).cells ++ (av1 b).cells)) (hms : ∀ a b, ms (mk a b) ≤ ms0 a + ms1 b + 1) (hok : ∀ a b, ok0 a → ok1 b → ok (mk a b)) : Reads enc w (n + 1) t av ms ok := by
  intro fuel cs x hf h
  obtain ⟨xs, m, hm, rfl, hl, hlen, hfs⟩ := DataW.trod_struct ht h
  injection ho with o0 ho; injection ho with o1 ho
  match xs, hlen with
  | [x0, x1], _ =>
    have k0 := hfs 0 f0 rfl
    have k1 := hfs 1 f1 rfl
    obtain ⟨y0, a1, a2, a3, a4, a5⟩ := h0 m _ x0 (by omega) k0
    obtain ⟨y1, b1, b2, b3, b4, b5⟩ := h1 m _ x1 (by omega) k1
    rw [o0] at a2; rw [o1] at b2
    refine ⟨mk y0 y1, hok _ _ a1 b1, ?_, ?_, ?_, ?_⟩
    · rw [hav]
      have hc := cut2 (l := cs) (by rw [hl, ho])
      have := VRs_append a2 b2
      rw [hc] at this
      exact this
    · rw [hav]
      intro c hc
      rcases List.mem_append.1 (by simpa [AV.cells] using hc) with hc | hc
      · exact a3 c hc
      · exact b3 c hc
    · rw [hav]; rfl
    · have := hms y0 y1
      simp only [List.map_cons, List.map_nil, YthcjadhoplakcaaGreatDoor.Rows.uptoBulk, YthcjadhoplakcaaGreatDoor.Rows.uptoBulkAll]
      omega
theorem Reads.struct3 {n : Nat} {t : TypeId} {f0 f1 f2 : Field} {α β0 β1 β2 : Type} {av : α → AV} {ms : α → Nat} {ok : α → Prop} {av0 : β0 → AV} {ms0 : β0 → Nat} {ok0 : β0 → Prop} {av1 : β1 → AV} {ms1 : β1 → Nat} {ok1 : β1 → Prop} {av2 : β2 → AV} {ms2 : β2 → Nat} {ok2 : β2 → Prop} (mk : β0 → β1 → β2 → α)
    (ht : Go.Proofs.Tryz.prog.underlying t = some (.struct #[f0, f1, f2])) (ho : (f0.offset, f1.offset, f2.offset, Go.Proofs.Tryz.prog.cellsOf t) = (0, Go.Proofs.Tryz.prog.cellsOf f0.type, Go.Proofs.Tryz.prog.cellsOf f0.type + Go.Proofs.Tryz.prog.cellsOf f1.type, Go.Proofs.Tryz.prog.cellsOf f0.type + (Go.Proofs.Tryz.prog.cellsOf f1.type + Go.Proofs.Tryz.prog.cellsOf f2.type)))
    (h0 : Reads enc w n f0.type av0 ms0 ok0) (h1 : Reads enc w n f1.type av1 ms1 ok1) (h2 : Reads enc w n f2.type av2 ms2 ok2)
    (hav : ∀ a b c, av (mk a b c) = .agg ((av0 a).cells ++ ((av1 b).cells ++ (av2 c).cells))) (hms : ∀ a b c, ms (mk a b c) ≤ ms0 a + ms1 b + ms2 c + 1) (hok : ∀ a b c, ok0 a → ok1 b → ok2 c → ok (mk a b c)) : Reads enc w (n + 1) t av ms ok := by
  intro fuel cs x hf h
  obtain ⟨xs, m, hm, rfl, hl, hlen, hfs⟩ := DataW.trod_struct ht h
  injection ho with o0 ho; injection ho with o1 ho; injection ho with o2 ho
  match xs, hlen with
  | [x0, x1, x2], _ =>
    obtain ⟨y0, a1, a2, a3, a4, a5⟩ := h0 m _ x0 (by omega) (hfs 0 f0 rfl)
    obtain ⟨y1, b1, b2, b3, b4, b5⟩ := h1 m _ x1 (by omega) (hfs 1 f1 rfl)
    obtain ⟨y2, c1, c2, c3, c4, c5⟩ := h2 m _ x2 (by omega) (hfs 2 f2 rfl)
    rw [o0] at a2; rw [o1] at b2; rw [o2] at c2
    refine ⟨mk y0 y1 y2, hok _ _ _ a1 b1 c1, ?_, ?_, ?_, ?_⟩
    · rw [hav]
      have := VRs_append a2 (VRs_append b2 c2)
      rw [List.take_of_length_le (l := cs.drop (_ + _)) (by simp; omega), piece, List.drop_zero, List.take_append_drop] at this
      exact this
    · rw [hav]
      intro c hc
      simp only [AV.cells, List.mem_append] at hc
      rcases hc with hc | hc | hc
      · exact a3 c hc
      · exact b3 c hc
      · exact c3 c hc
    · rw [hav]; rfl
    · have := hms y0 y1 y2
      simp only [List.map_cons, List.map_nil, YthcjadhoplakcaaGreatDoor.Rows.uptoBulk, YthcjadhoplakcaaGreatDoor.Rows.uptoBulkAll]
      omega
theorem Reads.struct4 {n : Nat} {t : TypeId} {f0 f1 f2 f3 : Field} {α β0 β1 β2 β3 : Type} {av : α → AV} {ms : α → Nat} {ok : α → Prop} {av0 : β0 → AV} {ms0 : β0 → Nat} {ok0 : β0 → Prop} {av1 : β1 → AV} {ms1 : β1 → Nat} {ok1 : β1 → Prop} {av2 : β2 → AV} {ms2 : β2 → Nat} {ok2 : β2 → Prop} {av3 : β3 → AV} {ms3 : β3 → Nat} {ok3 : β3 → Prop} (mk : β0 → β1 → β2 → β3 → α)
    (ht : Go.Proofs.Tryz.prog.underlying t = some (.struct #[f0, f1, f2, f3])) (ho : (f0.offset, f1.offset, f2.offset, f3.offset, Go.Proofs.Tryz.prog.cellsOf t) = (0, Go.Proofs.Tryz.prog.cellsOf f0.type, Go.Proofs.Tryz.prog.cellsOf f0.type + Go.Proofs.Tryz.prog.cellsOf f1.type, Go.Proofs.Tryz.prog.cellsOf f0.type + Go.Proofs.Tryz.prog.cellsOf f1.type + Go.Proofs.Tryz.prog.cellsOf f2.type, Go.Proofs.Tryz.prog.cellsOf f0.type + Go.Proofs.Tryz.prog.cellsOf f1.type + (Go.Proofs.Tryz.prog.cellsOf f2.type + Go.Proofs.Tryz.prog.cellsOf f3.type)))
    (h0 : Reads enc w n f0.type av0 ms0 ok0) (h1 : Reads enc w n f1.type av1 ms1 ok1) (h2 : Reads enc w n f2.type av2 ms2 ok2) (h3 : Reads enc w n f3.type av3 ms3 ok3)
    (hav : ∀ a b c d, av (mk a b c d) = .agg ((av0 a).cells ++ ((av1 b).cells ++ ((av2 c).cells ++ (av3 d).cells)))) (hms : ∀ a b c d, ms (mk a b c d) ≤ ms0 a + ms1 b + ms2 c + ms3 d + 1) (hok : ∀ a b c d, ok0 a → ok1 b → ok2 c → ok3 d → ok (mk a b c d)) : Reads enc w (n + 1) t av ms ok := by
  intro fuel cs x hf h
  obtain ⟨xs, m, hm, rfl, hl, hlen, hfs⟩ := DataW.trod_struct ht h
  injection ho with o0 ho; injection ho with o1 ho; injection ho with o2 ho; injection ho with o3 ho
  match xs, hlen with
  | [x0, x1, x2, x3], _ =>
    obtain ⟨y0, a1, a2, a3, a4, a5⟩ := h0 m _ x0 (by omega) (hfs 0 f0 rfl)
    obtain ⟨y1, b1, b2, b3, b4, b5⟩ := h1 m _ x1 (by omega) (hfs 1 f1 rfl)
    obtain ⟨y2, c1, c2, c3, c4, c5⟩ := h2 m _ x2 (by omega) (hfs 2 f2 rfl)
    obtain ⟨y3, d1, d2, d3, d4, d5⟩ := h3 m _ x3 (by omega) (hfs 3 f3 rfl)
    rw [o0] at a2; rw [o1] at b2; rw [o2] at c2; rw [o3] at d2
    refine ⟨mk y0 y1 y2 y3, hok _ _ _ _ a1 b1 c1 d1, ?_, ?_, ?_, ?_⟩
    · rw [hav]
      have := VRs_append a2 (VRs_append b2 (VRs_append c2 d2))
      rw [List.take_of_length_le (l := cs.drop (_ + _ + _)) (by simp; omega), piece, piece, List.drop_zero, List.take_append_drop] at this
      exact this
    · rw [hav]
      intro c hc
      simp only [AV.cells, List.mem_append] at hc
      rcases hc with hc | hc | hc | hc
      · exact a3 c hc
      · exact b3 c hc
      · exact c3 c hc
      · exact d3 c hc
    · rw [hav]; rfl
    · have := hms y0 y1 y2 y3
      simp only [List.map_cons, List.map_nil, YthcjadhoplakcaaGreatDoor.Rows.uptoBulk, YthcjadhoplakcaaGreatDoor.Rows.uptoBulkAll]
      omega
theorem Reads.le {n m : Nat} {t : TypeId} {α : Type} {av : α → AV} {ms : α → Nat} {ok : α → Prop} (h : Reads enc w n t av ms ok) (hm : m ≤ n) : Reads enc w m t av ms ok := fun fuel cs x hf => h fuel cs x (by omega)
end
/-! ### a call, from its contract -/
theorem Callee.calls {P : Program} {f : FuncId} {fn : Func} (hf : P.funcs[f]? = some fn) (hb : fn.body.isSome = true) (hn : (fn.name == "runtime.NumGoroutine") = false) {vs : Array Value} {w : World} {R : Value → World → Prop} (h : Callee P f vs w R) : Calls P f vs w fun e w' => ∃ r, e = .returned r ∧ R r w' := by
  obtain ⟨c, hb⟩ := Option.isSome_iff_exists.1 hb
  have h1 : (callFunc f vs).run P w = .ok (.enter f vs) w := by
    have h2 : fn.name ≠ "runtime.NumGoroutine" := by simpa using hn
    simp [callFunc, hf, h2, hb]
  unfold Callee at h
  rw [h1] at h
  simp only at h
  exact Calls.mono h fun e w' he => by
    cases e <;> first | exact ⟨_, rfl, he⟩ | exact he.elim
theorem rel0 (w : World) : Rel (s0 w) ⟨0, .nil⟩ w := ⟨Nat.le_refl _, fun l b d m hl => (by cases hl), fun l b d m hl => (by cases hl), fun b hb => hb, fun l l' b d m d' m' h1 => (by cases h1), fun l b d m o hl => (by cases hl)⟩
theorem step_old {w w' : World} {s' : Go.Eng.St} (h : Go.Eng.Step (s0 w) w s' w') : ∀ b, b < w.heap.size → w'.heap[b]? = w.heap[b]? := fun b hb => h.keep.block b hb fun l d m hl => by cases hl
theorem kept_of {w w' : World} (ho : w'.os = w.os) (hp : w'.output = w.output) (hb : ∀ b, b < w.heap.size → w'.heap[b]? = w.heap[b]?) (may : MemPlace → Prop) : w.keptBut w' may := by
  refine ⟨ho, hp, fun i hi => ?_⟩
  rw [hb i hi]
  cases w.heap[i]? with
  | none => trivial
  | some o => cases o <;> simp
theorem same_of {w w' : World} (hb : ∀ b, b < w.heap.size → w'.heap[b]? = w.heap[b]?) {p : MemPlace} (hp : p.block < w.heap.size) : w.sameAt w' p := by
  cases p with
  | cell b off =>
    have := hb b hp
    unfold World.sameAt World.cell?
    simp only [this]
  | map b => exact hb b hp
section
variable {H : Type} {enc : TypeId × Value → H} {P : Program}
theorem trodAll_stays (hl : laidOutB P = true) {W W' : World} {sp : Nat → Bool} : ∀ {ts : List TypeId} {vs : List Value} {ds : List (DataW H)} {ps : List MemPlace}, (∀ t ∈ ts, P.readableRec t = true ∧ t < P.types.size) → DataW.TrodAll enc P W 0 (fun _ => true) true ts vs ds ps →
    (∀ p ∈ ps, W.sameAt W' p) → (∀ p ∈ ps, sp p.block = true) → DataW.TrodAll enc P W' 0 sp true ts vs ds ps
  | [], _, _, _, _, h, _, _ => by
    obtain ⟨rfl, rfl, rfl⟩ := trodAll_nil h
    exact trodAll_mk0
  | t :: ts, _, _, _, ht, h, hs, hp => by
    obtain ⟨v, vs1, d, ds1, a, b, rfl, rfl, rfl, h1, h2⟩ := trodAll_cons h
    have h3 := ht t List.mem_cons_self
    exact ⟨a, b, WideElems.Trod_stays hl h3.1 h3.2 h1 (fun p hp => hs p (List.mem_append_left _ hp)) (fun q hq => hp q (List.mem_append_left _ hq)), trodAll_stays hl (fun x hx => ht x (List.mem_cons_of_mem _ hx)) h2 (fun p hp => hs p (List.mem_append_right _ hp)) (fun q hq => hp q (List.mem_append_right _ hq)), rfl⟩
theorem post_law {f : Func} {s : ChangeSpec} {tb : TypeId} {W W' : World} {args : Array Value} {ds gs : List (DataW H)} {before : List MemPlace} (hl : laidOutB P = true) (ht : ∀ t ∈ f.params.toList, P.readableRec t = true ∧ t < P.types.size)
    (hW : DataW.Whole enc P f.params.toList s.vars false W args.toList ds gs before) (hv : s.vars = []) (hr : f.resultTypes = #[tb]) (htb : P.underlying tb = some .bool)
    (hfn : s.fn H (ds ++ gs) = { results := [.lit (.bool true)], args := ds }) (ho : W'.os = W.os) (hp : W'.output = W.output) (hb : ∀ b, b < W.heap.size → W'.heap[b]? = W.heap[b]?) :
    s.post enc P f false true false false W args (.bool true) W' := by
  have hW' := hW
  obtain ⟨p, q, hA, hV, rfl, hz, hn⟩ := hW
  rw [hv] at hV
  obtain ⟨rfl, rfl⟩ := trodVars_none hV
  have hlt := hW'.lt
  have hold : ∀ x ∈ p, (fun b => decide (b < W.heap.size)) x.block = true := fun x hx => by simpa using hlt x (by simpa using hx)
  refine ⟨ds, [], p ++ [], [], p, [], hW', ?_, ?_, ?_, World.keptBut_mono (fun x hx => ⟨hx, .inr (.inl (by simpa using hx))⟩) (kept_of ho hp hb (· ∈ p ++ [])), fun h => by cases h⟩
  · rw [hfn, hr]
    exact trodAll_cons_mk (shut_bool htb _) trodAll_mk0
  · rw [hfn]
    exact trodAll_stays hl ht hA (fun x hx => same_of hb (hlt x (by simpa using hx))) hold
  · rw [hv, hfn]
    exact rfl
end
theorem law_calls {H : Type} {enc : TypeId × Value → H} {f : FuncId} {fn : Func} {tb : TypeId} {s : ChangeSpec} {W : World} {args : Array Value} {ds gs : List (DataW H)} {before : List MemPlace} {xs : List AV}
    (hf : Go.Proofs.Tryz.prog.funcs[f]? = some fn) (hb : fn.body.isSome = true) (hn : (fn.name == "runtime.NumGoroutine") = false) (hl : laidOutB Go.Proofs.Tryz.prog = true) (ht : ∀ t ∈ fn.params.toList, Go.Proofs.Tryz.prog.readableRec t = true ∧ t < Go.Proofs.Tryz.prog.types.size)
    (hW : DataW.Whole enc Go.Proofs.Tryz.prog fn.params.toList s.vars false W args.toList ds gs before) (hv : s.vars = []) (hr : fn.resultTypes = #[tb]) (htb : Go.Proofs.Tryz.prog.underlying tb = some .bool)
    (hfn : s.fn H (ds ++ gs) = { results := [.lit (.bool true)], args := ds }) (hG : GlobR (s0 W) W G0) (hx : VRs (s0 W) W xs args.toList) (hp : Puv f xs (.bool true)) :
    Calls Go.Proofs.Tryz.prog f args W fun e W' => ∃ v, e = .returned v ∧ s.post enc Go.Proofs.Tryz.prog fn false true false false W args v W' := by
  refine (Callee.calls hf hb hn (hp ⟨0, .nil⟩ (s0 W) W args rfl (rel0 W) hG hx)).mono ?_
  rintro e W' ⟨r, rfl, v, h', s', ⟨rfl, _⟩, _, st, hvr⟩
  simp only [VR] at hvr
  subst hvr
  exact ⟨_, rfl, post_law hl ht hW hv hr htb hfn st.keep.os st.keep.output (step_old st)⟩
end Go.Eng.Tryz
set_option maxRecDepth 20000
set_option maxHeartbeats 1000000
namespace Go.Eng.Tryz
open Go.Eng Go.Proofs Go.RowKit Go.ChangeShapes Go.WideShapes
theorem VR_tab {W : World} {g : Nat} {c : Array Value} {t : TypeId} {fr : Nat × Nat} {k : IntKind} {zs : List Int} (h : W.heap[g]? = some (.cells c t fr)) (hc : c.toList = zs.map (Value.int k)) : VR (s0 W) W (.fptr (zs.map (AV.int k))) (.pointer (some ⟨g, 0, none⟩)) ∧ c.size = (zs.map (AV.int k)).length := by
  have hg : g < W.heap.size := (Array.getElem?_eq_some_iff.1 h).1
  refine ⟨?_, by rw [← Array.length_toList, hc]; simp⟩
  unfold VR
  refine ⟨⟨g, 0, none⟩, zs.map (Value.int k), rfl, VRs_of (by simp) fun i x r hx hr => ?_, fun j v hv => ?_, hg, hg, rfl, fun x hx => ?_⟩
  · simp only [List.getElem?_map, Option.map_eq_some_iff] at hx hr
    obtain ⟨z, hz, rfl⟩ := hx
    obtain ⟨z', hz', rfl⟩ := hr
    rw [hz] at hz'; injection hz' with hz'; subst hz'
    simp only [VR]
  · rw [← hc, Array.getElem?_toList] at hv
    unfold World.cell?
    by_cases hj : j = 0
    · subst hj
      simp [Addr.add, h]
      exact hv
    · simp [Addr.add, hj, h]
      exact hv
  · obtain ⟨z, _, rfl⟩ := List.mem_map.1 hx
    rfl
theorem heap_of_var {P : Program} {W : World} {name : String} {g : Nat} {cs : Array Value} (hg : P.globalNamed name = some g) (hv : W.var? P name = some cs) : ∃ t fr, W.heap[g]? = some (.cells cs t fr) := by
  unfold World.var? at hv
  rw [hg] at hv
  simp only [Option.bind_some] at hv
  split at hv
  · rename_i cs' t fr h
    injection hv with hv; subst hv
    exact ⟨t, fr, h⟩
  · cases hv
def LaidAt (P : Program) (W : World) (n : String) (d : DataW Unit) : Prop := ∃ g t cs fuel p, P.globalNamed n = some g ∧ (P.globals[g]?).map (·.type) = some t ∧ W.var? P n = some cs ∧ DataW.trod (fun _ => ()) P W 0 (fun _ => true) false fuel t cs.toList = some (d, p)
theorem laidAt {P : Program} {W : World} {n : String} {d : DataW Unit} : ∀ {l : List (String × DataW Unit)} {ps : List MemPlace}, DataW.LaidVars P W l ps → (n, d) ∈ l → LaidAt P W n d
  | (m, e) :: l, ps, h, hm => by
    obtain ⟨g, t, cs, fuel, p, q, h1, h2, h3, h4, h5, _⟩ := h
    rcases List.mem_cons.1 hm with he | hm
    · injection he with e1 e2
      subst e1; subst e2
      exact ⟨g, t, cs, fuel, p, h1, h2, h3, h4⟩
    · exact laidAt h5 hm
theorem tab_of {W : World} {n : String} {d : DataW Unit} {k : IntKind} {zs : List Int} {g : Nat} {t e : TypeId} {m : Nat} (hl : LaidAt Go.Proofs.Tryz.prog W n d) (hd : d = Lib.tabData k zs)
    (hg : Go.Proofs.Tryz.prog.globalNamed n = some g) (hty : (Go.Proofs.Tryz.prog.globals[g]?).map (·.type) = some t) (ht : Go.Proofs.Tryz.prog.underlying t = some (.array m e)) (he : Go.Proofs.Tryz.prog.underlying e = some (.int k)) (hce : Go.Proofs.Tryz.prog.cellsOf e = 1) (hct : Go.Proofs.Tryz.prog.cellsOf t = m) :
    VR (s0 W) W (.fptr (zs.map (AV.int k))) (.pointer (some ⟨g, 0, none⟩)) ∧ ∃ c t fr, W.heap[g]? = some (.cells c t fr) ∧ c.size = (zs.map (AV.int k)).length := by
  obtain ⟨g', t', cs, fuel, p, h1, h2, h3, h4⟩ := hl
  rw [hg] at h1; injection h1 with h1; subst h1
  rw [hty] at h2; injection h2 with h2; subst h2
  subst hd
  obtain ⟨t', fr, h5⟩ := heap_of_var hg h3
  have h6 := Lib.cells_of_tab ht he hce hct h4
  obtain ⟨h7, h8⟩ := VR_tab h5 h6
  exact ⟨h7, cs, t', fr, h5, h8⟩
theorem mapM_all {α β : Type} {f : α → Option β} {l : List α} {r : List β} (h : l.mapM f = some r) : ∀ (i : Nat) (b : β), r[i]? = some b → ∃ a, l[i]? = some a ∧ f a = some b := by
  intro i b hb
  have hl := Lib.mapM_length h
  have hi : i < l.length := by have := (List.getElem?_eq_some_iff.1 hb).1; omega
  obtain ⟨b', h1, h2⟩ := Lib.mapM_at h i l[i] (List.getElem?_eq_getElem hi)
  rw [hb] at h1; injection h1 with h1; subst h1
  exact ⟨_, List.getElem?_eq_getElem hi, h2⟩
theorem pairs_of {P : Program} {W : World} {fuel m : Nat} {t e : TypeId} {f0 f1 : Field} {k : IntKind} {cs : List Value} {zs : List (Int × Int)} {p : List MemPlace} {held : Bool}
    (ht : P.underlying t = some (.array m e)) (he : P.underlying e = some (.struct #[f0, f1])) (hce : P.cellsOf e = 2) (ho : (f0.offset, f1.offset) = (0, 1)) (h0 : P.underlying f0.type = some (.int k)) (h1 : P.underlying f1.type = some (.int k)) (hc0 : P.cellsOf f0.type = 1) (hc1 : P.cellsOf f1.type = 1) (hct : P.cellsOf t = m * 2)
    (h : DataW.trod (fun _ => ()) P W 0 (fun _ => true) held fuel t cs = some ((.agg (zs.map fun z => .agg [.lit (.int k z.1), .lit (.int k z.2)]) : DataW Unit), p)) : cs = zs.flatMap fun z => [Value.int k z.1, Value.int k z.2] := by
  injection ho with o0 o1
  cases fuel with
  | zero => simp [DataW.trod] at h
  | succ fuel =>
    simp only [DataW.trod, ht, hce, hct] at h
    split at h
    · rename_i hl
      obtain ⟨xs, hm, hx⟩ := Option.map_eq_some_iff.1 h
      have hxs := congrArg Prod.fst hx
      simp only [DataW.agg.injEq] at hxs
      have hxl : xs.length = m := by simpa using Lib.mapM_length hm
      have hzl : zs.length = m := by
        have := congrArg List.length hxs
        simp at this; omega
      have hat : ∀ i, i < m → ∃ z, zs[i]? = some z ∧ (cs.drop (i * 2)).take 2 = [Value.int k z.1, Value.int k z.2] := by
        intro i hi
        obtain ⟨b, hb, hf⟩ := Lib.mapM_at hm i i (by simp [hi])
        have hz : zs[i]? = some zs[i] := List.getElem?_eq_getElem (by omega)
        have h2 : (xs.map (·.1))[i]? = some b.1 := by simp [hb]
        rw [hxs] at h2
        simp only [List.getElem?_map, hz, Option.map_some, Option.some.injEq] at h2
        refine ⟨zs[i], hz, ?_⟩
        obtain ⟨y0, y1, n, hy, hlen, k0, k1⟩ := trod_struct2 he hf
        rw [hy] at h2
        simp only [DataW.agg.injEq, List.cons.injEq, and_true] at h2
        obtain ⟨a0, e0, r0, _⟩ := DataW.trod_int h0 k0
        obtain ⟨a1, e1, r1, _⟩ := DataW.trod_int h1 k1
        rw [r0, r1] at h2
        simp only [DataW.lit.injEq, Lit.int.injEq, true_and] at h2
        rw [o0, hc0, List.drop_zero] at e0
        rw [o1, hc1] at e1
        rw [hce] at hlen
        generalize (cs.drop (i * 2)).take 2 = l at *
        match l, hlen with
        | [u, v], _ =>
          simp at e0 e1
          rw [e0, e1, h2.1, h2.2]
      have gen : ∀ (zs : List (Int × Int)) (cs : List Value), cs.length = zs.length * 2 → (∀ i, i < zs.length → ∃ z, zs[i]? = some z ∧ (cs.drop (i * 2)).take 2 = [Value.int k z.1, Value.int k z.2]) → cs = zs.flatMap fun z => [Value.int k z.1, Value.int k z.2] := by
        intro zs
        induction zs with
        | nil => intro cs hl _; simpa using hl
        | cons z zs ih =>
          intro cs hl hat
          obtain ⟨z', hz', h3⟩ := hat 0 (by simp)
          simp at hz'; subst hz'
          simp only [Nat.zero_mul, List.drop_zero] at h3
          have h4 := ih (cs.drop 2) (by simp at hl ⊢; omega) (fun i hi => by
            obtain ⟨z', hz', h5⟩ := hat (i + 1) (by simp; omega)
            refine ⟨z', by simpa using hz', ?_⟩
            rw [List.drop_drop, show 2 + i * 2 = (i + 1) * 2 by omega]
            exact h5)
          rw [List.flatMap_cons, ← h4, ← h3]
          exact (List.take_append_drop 2 cs).symm
      exact gen zs cs (by omega) (fun i hi => hat i (by omega))
    · cases h
theorem tname : ∀ u, Go.Proofs.Tryz.prog.typeName? 3 u = some "*errors.errorString" → u = 367 := fun u hu =>
  typeName_ptr_named (nm := "errors.errorString") (by kernel_rfl) (by kernel_rfl) (by decide) u hu
def acceptP : List (Int × Int) := [(128, 191), (160, 191), (128, 159), (144, 191), (128, 143), (0, 0), (0, 0), (0, 0), (0, 0), (0, 0), (0, 0), (0, 0), (0, 0), (0, 0), (0, 0), (0, 0)]
abbrev laidL : List (String × DataW Unit) := YthcjadhoplakcaaGreatDoor.Rows.queryMeetUptoRow.laid
theorem glob_of {W : World} (hL : laidMetH Go.Proofs.Tryz.prog laidL W) : GlobR (s0 W) W G0 := by
  have hL' : laidMet Go.Proofs.Tryz.prog laidL W := hL
  obtain ⟨ps, hv, _⟩ := hL'
  have a6 := laidAt hv (n := "math/bits.deBruijn32tab") (d := YthcjadhoplakcaaGreatDoor.Rows.laid_math_bits_deBruijn32tab) (by simp [laidL, YthcjadhoplakcaaGreatDoor.Rows.queryMeetUptoRow])
  have a7 := laidAt hv (n := "math/bits.deBruijn64tab") (d := YthcjadhoplakcaaGreatDoor.Rows.laid_math_bits_deBruijn64tab) (by simp [laidL, YthcjadhoplakcaaGreatDoor.Rows.queryMeetUptoRow])
  have a0 := laidAt hv (n := "internal/strconv.uint64pow10") (d := YthcjadhoplakcaaGreatDoor.Rows.laid_internal_strconv_uint64pow10) (by simp [laidL, YthcjadhoplakcaaGreatDoor.Rows.queryMeetUptoRow])
  have a5 := laidAt hv (n := "unicode/utf8.acceptRanges") (d := YthcjadhoplakcaaGreatDoor.Rows.laid_unicode_utf8_acceptRanges) (by simp [laidL, YthcjadhoplakcaaGreatDoor.Rows.queryMeetUptoRow])
  have a2 := laidAt hv (n := "strconv.ErrRange") (d := YthcjadhoplakcaaGreatDoor.Rows.laid_strconv_ErrRange) (by simp [laidL, YthcjadhoplakcaaGreatDoor.Rows.queryMeetUptoRow])
  have a1 := laidAt hv (n := "strconv.ErrSyntax") (d := YthcjadhoplakcaaGreatDoor.Rows.laid_strconv_ErrSyntax) (by simp [laidL, YthcjadhoplakcaaGreatDoor.Rows.queryMeetUptoRow])
  have a4 := laidAt hv (n := "unicode/utf8.first") (d := YthcjadhoplakcaaGreatDoor.Rows.laid_unicode_utf8_first) (by simp [laidL, YthcjadhoplakcaaGreatDoor.Rows.queryMeetUptoRow])
  have b6 := tab_of (k := .u8) (zs := bruijn32L) (g := 6) (t := 370) (e := 5) (m := 32) a6 (by kernel_rfl) (by kernel_rfl) (by kernel_rfl) (by kernel_rfl) (by kernel_rfl) (by kernel_rfl) (by kernel_rfl)
  have b7 := tab_of (k := .u8) (zs := bruijn64L) (g := 7) (t := 371) (e := 5) (m := 64) a7 (by kernel_rfl) (by kernel_rfl) (by kernel_rfl) (by kernel_rfl) (by kernel_rfl) (by kernel_rfl) (by kernel_rfl)
  have b0 := tab_of (k := .u64) (zs := pow10L) (g := 0) (t := 339) (e := 91) (m := 20) a0 (by kernel_rfl) (by kernel_rfl) (by kernel_rfl) (by kernel_rfl) (by kernel_rfl) (by kernel_rfl) (by kernel_rfl)
  have b4 := tab_of (k := .u8) (zs := firstL) (g := 4) (t := 359) (e := 5) (m := 256) a4 (by kernel_rfl) (by kernel_rfl) (by kernel_rfl) (by kernel_rfl) (by kernel_rfl) (by kernel_rfl) (by kernel_rfl)
  have b5 : VR (s0 W) W (.fptr (acceptL.map (AV.int .u8))) (.pointer (some ⟨5, 0, none⟩)) ∧ ∃ c t fr, W.heap[5]? = some (.cells c t fr) ∧ c.size = (acceptL.map (AV.int .u8)).length := by
    obtain ⟨g', t', cs, fuel, p, h1, h2, h3, h4⟩ := a5
    have hg : Go.Proofs.Tryz.prog.globalNamed "unicode/utf8.acceptRanges" = some 5 := by kernel_rfl
    have hty : (Go.Proofs.Tryz.prog.globals[5]?).map (·.type) = some 362 := by kernel_rfl
    rw [hg] at h1; injection h1 with h1; subst h1
    rw [hty] at h2; injection h2 with h2; subst h2
    obtain ⟨t', fr, h5⟩ := heap_of_var hg h3
    have h6 := pairs_of (k := .u8) (zs := acceptP) (m := 16) (e := 361) (by kernel_rfl) Go.Proofs.Tryz.underlying361 (by kernel_rfl) (by kernel_rfl) (by kernel_rfl) (by kernel_rfl) (by kernel_rfl) (by kernel_rfl) (by kernel_rfl) h4
    obtain ⟨h7, h8⟩ := VR_tab (k := .u8) (zs := acceptL) h5 (h6.trans (by rfl))
    exact ⟨h7, cs, t', fr, h5, h8⟩
  have berr : ∀ (n : String) (d : DataW Unit) (g : Nat), LaidAt Go.Proofs.Tryz.prog W n (.iface "*errors.errorString" d) → Go.Proofs.Tryz.prog.globalNamed n = some g → (Go.Proofs.Tryz.prog.globals[g]?).map (·.type) = some 193 →
      VR (s0 W) W (.fptr [.iface 367 .any]) (.pointer (some ⟨g, 0, none⟩)) ∧ ∃ c t fr, W.heap[g]? = some (.cells c t fr) ∧ c.size = 1 := by
    intro n d g ha hg hty
    obtain ⟨g', t', cs, fuel, p, h1, h2, h3, h4⟩ := ha
    rw [hg] at h1; injection h1 with h1; subst h1
    rw [hty] at h2; injection h2 with h2; subst h2
    obtain ⟨t', fr, h5⟩ := heap_of_var hg h3
    obtain ⟨f', u, v, h6, h7, _⟩ := iface_of_trod Go.Proofs.Tryz.underlying193 h4
    have hu := tname u h7
    subst hu
    have hgl : g < W.heap.size := (Array.getElem?_eq_some_iff.1 h5).1
    refine ⟨?_, cs, t', fr, h5, by rw [← Array.length_toList, h6]; rfl⟩
    unfold VR
    refine ⟨⟨g, 0, none⟩, [.iface 367 v], rfl, ?_, fun j x hx => ?_, hgl, hgl, rfl, by simp [AV.leaf]⟩
    · simp only [VRs, VR]
      exact ⟨_, _, rfl, ⟨v, rfl, trivial⟩, rfl⟩
    · rw [← h6, Array.getElem?_toList] at hx
      unfold World.cell?
      by_cases hj : j = 0
      · subst hj
        simp [Addr.add, h5]
        exact hx
      · simp [Addr.add, hj, h5]
        exact hx
  have b2 := berr _ _ 2 a2 (by kernel_rfl) (by kernel_rfl)
  have b1 := berr _ _ 1 a1 (by kernel_rfl) (by kernel_rfl)
  refine ⟨fun g => ?_, fun g cs hg => ?_⟩
  · unfold G0
    split
    · exact b0.1
    · exact b1.1
    · exact b2.1
    · exact b4.1
    · exact b5.1
    · exact b6.1
    · exact b7.1
    · simp only [VR]
  · unfold G0 at hg
    split at hg
    · injection hg with hg; subst hg; exact b0.2
    · injection hg with hg; subst hg; exact b1.2
    · injection hg with hg; subst hg; exact b2.2
    · injection hg with hg; subst hg; exact b4.2
    · injection hg with hg; subst hg; exact b5.2
    · injection hg with hg; subst hg; exact b6.2
    · injection hg with hg; subst hg; exact b7.2
    · cases hg
end Go.Eng.Tryz
set_option maxRecDepth 20000
set_option maxHeartbeats 1000000
namespace Go.Eng.Tryz
open Go.Eng Go.Proofs Go.RowKit Go.ChangeShapes Go.WideShapes
theorem VR_agg {W : World} {r : Reach} {base : Nat} {t : TypeId} {fs : Array Field} {v : Value} {es : List AV} (ht : Go.Proofs.Tryz.prog.underlying t = some (.struct fs)) (hval : Value.okWide Go.Proofs.Tryz.prog W r base t v) (h : VRs (s0 W) W (AV.agg es).cells v.cells.toList) (hl : ∀ c ∈ (AV.agg es).cells, c.leaf = true) : VR (s0 W) W (.agg es) v := by
  unfold Value.okWide at hval
  rw [ht] at hval
  obtain ⟨cs, rfl, _⟩ := hval
  simp only [VR]
  exact ⟨cs, rfl, by simpa [AV.cells, Value.cells] using h, hl⟩
theorem VR_slc {W : World} {r : Reach} {base : Nat} {t e : TypeId} {v : Value} {f : Bool} {sz : Nat} {es : List AV} (ht : Go.Proofs.Tryz.prog.underlying t = some (.slice e)) (hval : Value.okWide Go.Proofs.Tryz.prog W r base t v) (h : VRs (s0 W) W (AV.fsl f sz es).cells v.cells.toList) : VR (s0 W) W (.fsl f sz es) v := by
  have h1 : v.cells.toList = [v] := by
    unfold Value.okWide Cell.okWide Cell.ok at hval
    rw [ht] at hval
    cases v <;> first | rfl | (simp at hval; done)
  rw [h1] at h
  simp only [AV.cells, VRs] at h
  obtain ⟨r, rs, h2, h3, h4⟩ := h
  injection h2 with h2 h5
  subst h2
  exact h3
def nodeM (n : Node) : Nat := 1 + (n.text.length + 1) + ((n.kids.map fun _ => 1).sum + 1) + 1
def graphM (g : Graph) : Nat := ((g.nodes.map nodeM).sum + 1) + 1 + 1
def partM (x : Part) : Nat := 1 + (x.text.length + 1) + (x.value.length + 1) + 1 + 1
def stepM (x : Step) : Nat := (x.key.length + 1) + 1 + 1 + 1
def okI (i : Int) : Prop := (Lit.int .i64 i).wf = true
def okS (s : List Nat) : Prop := ∀ x ∈ s, x < 256
def okN (n : Node) : Prop := okI n.kind ∧ okS n.text ∧ ∀ k ∈ n.kids, okI k
def okG (g : Graph) : Prop := (∀ n ∈ g.nodes, okN n) ∧ okI g.root
def okP (x : Part) : Prop := okI x.kind ∧ okS x.text ∧ okS x.value ∧ okI x.n
def okW (x : Step) : Prop := okS x.key ∧ okI x.index
instance : Inhabited Node := ⟨⟨0, [], []⟩⟩
instance : Inhabited Part := ⟨⟨0, [], [], 0⟩⟩
instance : Inhabited Step := ⟨⟨[], 0, false⟩⟩
section
variable {H : Type} {enc : TypeId × Value → H} {w : World}
theorem reads_int (n : Nat) : Reads enc w n 3 (fun i : Int => .int .i64 i) (fun _ => 1) okI := Reads.int (by kernel_rfl)
theorem reads_str (n : Nat) : Reads enc w n 9 AV.str (fun s => s.length + 1) okS := Reads.str (by kernel_rfl)
theorem reads_bool (n : Nat) : Reads enc w n 4 AV.bool (fun _ => 1) (fun _ => True) := Reads.bool (by kernel_rfl)
theorem reads_ints (n : Nat) : Reads enc w (n + 1) 66 (fun l : List Int => ints l) (fun l => (l.map fun _ => 1).sum + 1) (fun l => ∀ y ∈ l, okI y) := Reads.slice (sz := 1) (by kernel_rfl) (by kernel_rfl) (by decide) (reads_int n)
theorem reads_node (n : Nat) : Reads enc w (n + 2) 68 Node.av nodeM okN :=
  Reads.struct3 (fun k t c => ⟨k, t, c⟩) Go.Proofs.Tryz.underlying68 (by kernel_rfl) (reads_int _) (reads_str _) (reads_ints n) (fun _ _ _ => rfl) (fun _ _ _ => Nat.le_refl _) (fun _ _ _ h1 h2 h3 => ⟨h1, h2, h3⟩)
theorem reads_graph (n : Nat) : Reads enc w (n + 4) 24 Graph.av graphM okG :=
  Reads.struct2 (fun l r => ⟨l, r⟩) Go.Proofs.Tryz.underlying24 (by kernel_rfl) (Reads.slice (sz := 3) (by kernel_rfl) (by kernel_rfl) (by decide) (reads_node n)) (reads_int _) (fun _ _ => rfl) (fun _ _ => Nat.le_refl _) (fun _ _ h1 h2 => ⟨h1, h2⟩)
theorem reads_part (n : Nat) : Reads enc w (n + 1) 77 Part.av partM okP :=
  Reads.struct4 (fun k t v c => ⟨k, t, v, c⟩) Go.Proofs.Tryz.underlying77 (by kernel_rfl) (reads_int n) (reads_str n) (reads_str n) (reads_int n) (fun _ _ _ _ => rfl) (fun _ _ _ _ => Nat.le_refl _) (fun _ _ _ _ h1 h2 h3 h4 => ⟨h1, h2, h3, h4⟩)
theorem reads_parts (n : Nat) : Reads enc w (n + 2) 25 parts (fun l => (l.map partM).sum + 1) (fun l => ∀ y ∈ l, okP y) := Reads.slice (sz := 4) (by kernel_rfl) (by kernel_rfl) (by decide) (reads_part n)
theorem reads_step (n : Nat) : Reads enc w (n + 1) 79 Step.av stepM okW :=
  Reads.struct3 (fun k t c => ⟨k, t, c⟩) Go.Proofs.Tryz.underlying79 (by kernel_rfl) (reads_str n) (reads_int n) (reads_bool n) (fun _ _ _ => rfl) (fun _ _ _ => Nat.le_refl _) (fun _ _ _ h1 h2 _ => ⟨h1, h2⟩)
theorem reads_steps (n : Nat) : Reads enc w (n + 2) 26 steps (fun l => (l.map stepM).sum + 1) (fun l => ∀ y ∈ l, okW y) := Reads.slice (sz := 3) (by kernel_rfl) (by kernel_rfl) (by decide) (reads_step n)
theorem sum_ge {α : Type} (f : α → Nat) (h1 : ∀ x, 1 ≤ f x) : ∀ l : List α, l.length ≤ (l.map f).sum
  | [] => by simp
  | x :: l => by
    have := sum_ge f h1 l
    have := h1 x
    simp only [List.length_cons, List.map_cons, List.sum_cons]; omega
theorem sum_mem {α : Type} (f : α → Nat) {x : α} : ∀ {l : List α}, x ∈ l → f x ≤ (l.map f).sum
  | y :: l, h => by
    simp only [List.map_cons, List.sum_cons]
    rcases List.mem_cons.1 h with rfl | h
    · omega
    · have := sum_mem f h; omega
theorem sum_ones {α : Type} (l : List α) : (l.map fun _ => 1).sum = l.length := by
  induction l with
  | nil => rfl
  | cons x l ih => simp only [List.map_cons, List.sum_cons, ih, List.length_cons]; omega
theorem small_of {g : Graph} (h : graphM g ≤ 1048576) : Small g := by
  unfold graphM at h
  have h1 := sum_ge nodeM (fun n => by unfold nodeM; omega) g.nodes
  refine ⟨by omega, fun n hn => ?_⟩
  have h2 := sum_mem nodeM hn
  unfold nodeM at h2
  rw [sum_ones] at h2
  unfold nodeM at h
  omega
theorem parts_len {l : List Part} (h : (l.map partM).sum + 1 ≤ 1048576) : l.length < 1073741824 := by
  have := sum_ge partM (fun n => by unfold partM; omega) l
  omega
theorem steps_len {l : List Step} (h : (l.map stepM).sum + 1 ≤ 1048576) : l.length < 1073741824 := by
  have := sum_ge stepM (fun n => by unfold stepM; omega) l
  omega
variable {r : Reach} {base : Nat} {v : Value} {d : DataW H} {p : List MemPlace}
theorem open_graph (hval : Value.okWide Go.Proofs.Tryz.prog w r base 24 v) (h : DataW.Trod enc Go.Proofs.Tryz.prog w 0 (fun _ => true) true 24 v d p) : ∃ g, okG g ∧ VR (s0 w) w (Graph.av g) v ∧ graphM g ≤ YthcjadhoplakcaaGreatDoor.Rows.uptoBulk d := by
  obtain ⟨fuel, h⟩ := h
  obtain ⟨g, h1, h2, h3, _, h5⟩ := reads_graph (enc := enc) (w := w) fuel fuel _ _ (by omega) h
  exact ⟨g, h1, VR_agg Go.Proofs.Tryz.underlying24 hval h2 h3, h5⟩
theorem open_parts (hval : Value.okWide Go.Proofs.Tryz.prog w r base 25 v) (h : DataW.Trod enc Go.Proofs.Tryz.prog w 0 (fun _ => true) true 25 v d p) : ∃ l, (∀ y ∈ l, okP y) ∧ VR (s0 w) w (parts l) v ∧ (l.map partM).sum + 1 ≤ YthcjadhoplakcaaGreatDoor.Rows.uptoBulk d := by
  obtain ⟨fuel, h⟩ := h
  obtain ⟨g, h1, h2, h3, _, h5⟩ := reads_parts (enc := enc) (w := w) fuel fuel _ _ (by omega) h
  exact ⟨g, h1, VR_slc Go.Proofs.Tryz.underlying25 hval h2, h5⟩
theorem open_steps (hval : Value.okWide Go.Proofs.Tryz.prog w r base 26 v) (h : DataW.Trod enc Go.Proofs.Tryz.prog w 0 (fun _ => true) true 26 v d p) : ∃ l, (∀ y ∈ l, okW y) ∧ VR (s0 w) w (steps l) v ∧ (l.map stepM).sum + 1 ≤ YthcjadhoplakcaaGreatDoor.Rows.uptoBulk d := by
  obtain ⟨fuel, h⟩ := h
  obtain ⟨g, h1, h2, h3, _, h5⟩ := reads_steps (enc := enc) (w := w) fuel fuel _ _ (by omega) h
  exact ⟨g, h1, VR_slc Go.Proofs.Tryz.underlying26 hval h2, h5⟩
end
end Go.Eng.Tryz
