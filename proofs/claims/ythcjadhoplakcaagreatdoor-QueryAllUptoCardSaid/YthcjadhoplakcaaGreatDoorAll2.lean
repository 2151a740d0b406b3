/- The law QueryAll of package grommetlaw24 answers true and turns no argument, for all arguments that are together of bulk at most 1048576; condition: the listed package variables start as the program's text lays them. (part 2.) -/
import Derived.Test.YthcjadhoplakcaaGreatDoorAll1
import Derived.Laws.StructEq
set_option linter.unusedSimpArgs false
set_option linter.unusedVariables false
namespace Go.Eng
def EnvR (s : St) (w : World) (e : Env) (a : Act) : Prop := ∀ t, VR s w (e.get t) (a.tmps.getD t undef)
structure GlobR (s : St) (w : World) (G : Nat → AV) : Prop where
  val : ∀ g, VR s w (G g) (.pointer (some ⟨g, 0, none⟩))
  whole : ∀ g cs, G g = .fptr cs → ∃ c t fr, w.heap[g]? = some (.cells c t fr) ∧ c.size = cs.length
theorem constV_VR (s : St) (w : World) {v : Value} {x : AV} (h : constV v = some x) : VR s w x v ∧ x.leaf = true := by
  unfold constV at h
  split at h <;> first | cases h | skip
  all_goals first | exact ⟨by simp only [VR]; exact ⟨_, rfl, rfl⟩, rfl⟩ | exact ⟨by simp only [VR], rfl⟩
theorem constVs_VRs (s : St) (w : World) : ∀ {vs : List Value} {xs : List AV}, constVs vs = some xs → VRs s w xs vs ∧ ∀ c ∈ xs, c.leaf = true
  | [], xs, h => by simp only [constVs] at h; cases h; exact ⟨by simp only [VRs], fun _ h => by cases h⟩
  | v :: vs, xs, h => by
    simp only [constVs] at h
    split at h
    · rename_i x ys hx hys
      cases h
      have h1 := constV_VR s w hx
      have h2 := constVs_VRs s w hys
      exact ⟨by simp only [VRs]; exact ⟨v, vs, rfl, h1.1, h2.1⟩, fun c hc => by
        rcases List.mem_cons.1 hc with rfl | hc
        · exact h1.2
        · exact h2.2 c hc⟩
    · cases h
theorem constVa_VR (s : St) (w : World) {v : Value} {x : AV} (h : constVa v = some x) : VR s w x v := by
  unfold constVa at h
  split at h
  · rename_i cs
    cases hc : constVs cs.toList with
    | none => rw [hc] at h; cases h
    | some xs =>
      rw [hc] at h
      cases h
      have := constVs_VRs s w hc
      simp only [VR]
      exact ⟨cs, rfl, this.1, this.2⟩
  · exact (constV_VR s w h).1
section
variable {P : Program} {s : St} {h : H} {w : World} {G : Nat → AV} {e : Env} {a : Act}
theorem cX_VR (hG : GlobR s w G) (he : EnvR s w e a) {x : Operand} {y : X} (hc : cX x = some y) : VR s w (y.ev G e) (a.eval x) := by
  cases x with
  | tmp t => simp only [cX] at hc; cases hc; exact he t
  | const v =>
    simp only [cX] at hc
    cases hv : constVa v with
    | none => rw [hv] at hc; cases hc
    | some z => rw [hv] at hc; cases hc; exact constVa_VR s w hv
  | global g => simp only [cX] at hc; cases hc; exact hG.val g
  | func f =>
    simp only [cX] at hc
    cases hc
    simp only [X.ev, Act.eval, VR]
    exact ⟨#[], #[], rfl, by simp [VRs], by simp [VRs]⟩
theorem cXs_VR (hG : GlobR s w G) (he : EnvR s w e a) : ∀ {xs : List Operand} {ys : List X}, cXs xs = some ys → VRs s w (evs G e ys) (xs.map a.eval)
  | [], ys, hc => by simp only [cXs] at hc; cases hc; simp [evs, VRs]
  | x :: xs, ys, hc => by
    simp only [cXs] at hc
    split at hc
    · rename_i y zs hy hzs
      cases hc
      simp only [evs, List.map_cons, VRs]
      exact ⟨_, _, rfl, cX_VR hG he hy, cXs_VR hG he hzs⟩
    · cases hc
/-! inversions -/
theorem VR_bool {b : Bool} {v : Value} (h : VR s w (.bool b) v) : v = .bool b := by simpa only [VR] using h
theorem VR_int {k : IntKind} {n : Int} {v : Value} (h : VR s w (.int k n) v) : v = .int k n := by simpa only [VR] using h
theorem VR_str {l : List Nat} {v : Value} (h : VR s w (.str l) v) : ∃ b : ByteArray, v = .string b ∧ b.data.toList.map UInt8.toNat = l := by simpa only [VR] using h
theorem VR_ptr {l off : Nat} {v : Value} (h : VR s w (.ptr l off) v) : ∃ b d m, s.ρ l = some (b, d, m) ∧ v = .pointer (some ⟨b, d + off, none⟩) := by simpa only [VR] using h
theorem VR_agg {cs : List AV} {v : Value} (h : VR s w (.agg cs) v) : ∃ vs, v = .agg vs ∧ VRs s w cs vs.toList ∧ ∀ c ∈ cs, c.leaf = true := by simpa only [VR] using h
theorem VR_tup {cs : List AV} {v : Value} (h : VR s w (.tup cs) v) : ∃ vs, v = .tuple vs ∧ VRs s w cs vs.toList := by simpa only [VR] using h
theorem str_len {b : ByteArray} {l : List Nat} (h : b.data.toList.map UInt8.toNat = l) : l.length = b.size := by
  rw [← h, List.length_map, Array.length_toList]; rfl
theorem wr_eq (k : IntKind) (n : Int) : wr k n = k.wrap n := by
  cases k <;> simp only [wr]
  split
  · split
    · unfold IntKind.wrap IntKind.bits IntKind.signed
      simp only [Bool.true_and]
      split
      · rename_i h; simp at h; omega
      · rename_i h; simp at h; omega
    · rfl
  · rfl
theorem sub_some {cs r : List AV} {off n : Nat} (h : sub cs off n = some r) : r = (cs.drop off).take n ∧ r.length = n ∧ (off + n ≤ cs.length ∨ n = 0) := by
  unfold sub at h
  simp only at h
  split at h
  · rename_i hl
    injection h with e
    refine ⟨e.symm, by rw [← e]; exact hl, ?_⟩
    simp at hl
    omega
  · cases h
theorem VRs_sub {cs r : List AV} {rs : List Value} {off n : Nat} (hs : sub cs off n = some r) (h : VRs s w cs rs) : VRs s w r ((rs.drop off).take n) ∧ ((rs.drop off).take n).length = n := by
  obtain ⟨rfl, hl, _⟩ := sub_some hs
  have := VRs_take (VRs_drop h off) n
  exact ⟨this, by rw [VRs_length this, hl]⟩
theorem sub_mem {cs r : List AV} {off n : Nat} (hs : sub cs off n = some r) {c : AV} (hc : c ∈ r) : c ∈ cs := by
  obtain ⟨rfl, _⟩ := sub_some hs
  exact List.mem_of_mem_drop (List.mem_of_mem_take hc)
theorem mkV_VR {ag : Bool} {r : List AV} {v : AV} {rs : List Value} (hm : mkV ag r = some v) (h : VRs s w r rs) (hl : ∀ c ∈ r, c.leaf = true) :
    (ag = true → VR s w v (.agg rs.toArray)) ∧ (ag = false → ∃ x, rs = [x] ∧ VR s w v x) := by
  unfold mkV at hm
  cases ag with
  | true =>
    simp at hm
    subst hm
    refine ⟨fun _ => ?_, fun h => by cases h⟩
    simp only [VR]
    exact ⟨_, rfl, by simpa using h, hl⟩
  | false =>
    simp only [Bool.false_eq_true, if_false] at hm
    split at hm
    · injection hm with e
      subst e
      simp only [VRs] at h
      obtain ⟨x, rs', h1, hx, h2⟩ := h
      subst h2
      exact ⟨(fun h => by cases h), fun _ => ⟨x, h1, hx⟩⟩
    · cases hm
theorem run_part {t : TypeId} {ag : Bool} {n off : Nat} {cs : Array Value} {v : AV} {r : List AV} (ha : Tab.agg P t = some ag) (hn : size P t = some n) (hm : mkV ag r = some v)
    (h : VRs s w r ((cs.toList.drop off).take n)) (hl : ∀ c ∈ r, c.leaf = true) (hlen : ((cs.toList.drop off).take n).length = n) : ∃ x, (part t cs off).run P w = .ok x w ∧ VR s w v x := by
  have hmk := mkV_VR hm h hl
  obtain ⟨i, hi, hin⟩ := Option.map_eq_some_iff.1 hn
  unfold Tab.agg at ha
  cases ag with
  | true =>
    refine ⟨_, ?_, hmk.1 rfl⟩
    have hu : (isAgg t).run P w = .ok true w := by
      unfold isAgg
      split at ha
      · rename_i fs hu; simp [run_underlying hu]
      · rename_i k el hu; simp [run_underlying hu]
      · cases ha
      · cases ha
    simp only [part, Sem.run_bind, hu, Result.andThen_ok, if_true]
    simp only [sizeOf, typeInfo, Sem.run_bind, run_program, Result.andThen_ok, hi, Sem.run_pure, hin]
    congr 2
    apply Array.ext'
    simp [Array.toList_extract, List.extract_eq_take_drop]
  | false =>
    obtain ⟨x, hx, hv⟩ := hmk.2 rfl
    refine ⟨x, ?_, hv⟩
    have hu : (isAgg t).run P w = .ok false w := by
      unfold isAgg
      split at ha
      · cases ha
      · cases ha
      · rename_i d h1 h2 hu
        cases d <;> first | exact absurd rfl (h1 _) | exact absurd rfl (h2 _ _) | simp [run_underlying hu]
      · cases ha
    have hc : cs[off]? = some x := by
      have h1 : ((cs.toList.drop off).take n)[0]? = some x := by rw [hx]; rfl
      rw [List.getElem?_take] at h1
      split at h1
      · rw [List.getElem?_drop] at h1; simpa using h1
      · cases h1
    simp [part, hu, hc]
end
end Go.Eng
namespace Go.Eng
section
variable {P : Program} {s : St} {h : H} {w : World} {G : Nat → AV} {e : Env} {a : Act} {U : List (TypeId × TypeId)}
def QOK (P : Program) (s : St) (w : World) (o : Oper) (a : Act) (v : AV) : Prop := ∃ r, (execOp a.eval o).run P w = .ok (.value r) w ∧ VR s w v r
theorem do_some {α β : Type} {x : Option α} {f : α → β} {y : β} (h : (x.bind fun z => some (f z)) = some y) : ∃ z, x = some z ∧ f z = y := by
  cases x with
  | none => cases h
  | some z => exact ⟨z, rfl, by injection h⟩
theorem q_mv {o : Oper} {x : Operand} (hop : o.op = .move x ∨ o.op = .assign x) (hG : GlobR s w G) (he : EnvR s w e a) {i : I} (hc : cOp P o.op = some i) {v : AV} (hv : evQ U G i e h = some v) : QOK P s w o a v := by
  have hx : ∃ y, cX x = some y ∧ i = .mv y := by
    rcases hop with hop | hop <;> rw [hop] at hc <;> simp only [cOp] at hc <;> obtain ⟨z, h1, h2⟩ := do_some hc <;> exact ⟨z, h1, h2.symm⟩
  obtain ⟨y, hy, rfl⟩ := hx
  simp only [evQ] at hv
  injection hv with hv
  subst hv
  refine ⟨a.eval x, ?_, cX_VR hG he hy⟩
  rcases hop with hop | hop <;> simp [execOp, hop]
theorem q_pick {o : Oper} {c x y : Operand} (hop : o.op = .pick c x y) (hG : GlobR s w G) (he : EnvR s w e a) {i : I} (hc : cOp P o.op = some i) {v : AV} (hv : evQ U G i e h = some v) : QOK P s w o a v := by
  rw [hop] at hc
  simp only [cOp] at hc
  simp only [Option.bind_eq_bind, Option.bind_eq_some_iff, Option.some.injEq] at hc
  obtain ⟨c', h1, x', h2, y', h3, rfl⟩ := hc
  simp only [evQ] at hv
  have hc := cX_VR hG he h1
  split at hv
  · rename_i t ht
    rw [ht] at hc
    injection hv with hv
    have hb := VR_bool hc
    refine ⟨if t then a.eval x else a.eval y, by simp [execOp, hop, hb, asBool], ?_⟩
    subst hv
    cases t
    · exact cX_VR hG he h3
    · exact cX_VR hG he h2
  · cases hv
theorem asInt_int (k : IntKind) (n : Int) : asIntOf (.int k n) = .pure (k, n) := rfl
theorem sizeOf_run {t : TypeId} {n : Nat} (h : size P t = some n) (w : World) : (sizeOf t).run P w = .ok n w := by
  obtain ⟨i, hi, rfl⟩ := Option.map_eq_some_iff.1 h
  simp [sizeOf, typeInfo, run_program, hi]
theorem addr_add (b o n : Nat) : (⟨b, o, none⟩ : Addr).add n = ⟨b, o + n, none⟩ := Addr.add_lit b o n
theorem addr_add2 (a : Addr) (i j : Nat) : (a.add i).add j = a.add (i + j) := by
  unfold Addr.add
  by_cases h1 : i = 0
  · subst h1; simp
  · by_cases h2 : j = 0
    · subst h2; simp
    · rw [if_neg h1, if_neg h2, if_neg (by omega)]
      simp [Nat.add_assoc]
theorem VRs_leaf_drop {cs : List AV} {n : Nat} (hl : ∀ c ∈ cs, c.leaf = true) : ∀ c ∈ cs.drop n, c.leaf = true := fun c hc => hl c (List.mem_of_mem_drop hc)
theorem fptr_drop {cs : List AV} {v : Value} (n : Nat) (hv : VR s w (.fptr cs) v) : ∃ ad, v = .pointer (some ad) ∧ VR s w (.fptr (cs.drop n)) (.pointer (some (ad.add n))) := by
  simp only [VR] at hv ⊢
  obtain ⟨ad, rs, rfl, h1, h2, h3, h4, h5, h6⟩ := hv
  refine ⟨ad, rfl, _, rs.drop n, rfl, VRs_drop h1 n, ?_, by rw [addr_block]; exact h3, by rw [addr_block]; exact h4, ?_, VRs_leaf_drop h6⟩
  · intro j v hj
    rw [List.getElem?_drop] at hj
    rw [addr_add2]
    exact h2 _ _ hj
  · unfold Addr.add; split <;> simp_all
theorem q_fad {o : Oper} {t : TypeId} {x : Operand} {f : Nat} (hop : o.op = .fieldAddr t x f) (hG : GlobR s w G) (he : EnvR s w e a) {i : I} (hc : cOp P o.op = some i) {v : AV} (hv : evQ U G i e h = some v) : QOK P s w o a v := by
  rw [hop] at hc
  simp only [cOp] at hc
  split at hc
  · rename_i fs hu
    split at hc
    · rename_i fd hfd
      split at hc
      · rename_i n hn
        obtain ⟨y, hy, rfl⟩ := do_some hc
        have hx := cX_VR hG he hy
        have hrun : ∀ ad : Addr, a.eval x = .pointer (some ad) → (execOp a.eval o).run P w = .ok (.value (.pointer (some (ad.add fd.offset)))) w := by
          intro ad had
          simp [execOp, hop, Instr.fieldAt, run_underlying hu, hfd, Instr.sureAddr, had, fieldPlace, sizeOf_run hn]
        simp only [evQ] at hv
        split at hv
        · rename_i l off hl
          rw [hl] at hx
          injection hv with hv
          subst hv
          obtain ⟨b, d, m, h1, h2⟩ := VR_ptr hx
          refine ⟨_, hrun _ h2, ?_⟩
          simp only [VR]
          exact ⟨b, d, m, h1, by rw [addr_add, Nat.add_assoc]⟩
        · rename_i cs hl
          rw [hl] at hx
          injection hv with hv
          subst hv
          obtain ⟨ad, h1, h2⟩ := fptr_drop fd.offset hx
          exact ⟨_, hrun _ h1, h2⟩
        · cases hv
      · cases hc
    · cases hc
  · cases hc
theorem q_fld {o : Oper} {t : TypeId} {x : Operand} {f : Nat} (hop : o.op = .field t x f) (hG : GlobR s w G) (he : EnvR s w e a) {i : I} (hc : cOp P o.op = some i) {v : AV} (hv : evQ U G i e h = some v) : QOK P s w o a v := by
  rw [hop] at hc
  simp only [cOp] at hc
  split at hc
  · rename_i fs hu
    split at hc
    · rename_i fd hfd
      split at hc
      · rename_i ag n hag hn
        obtain ⟨y, hy, rfl⟩ := do_some hc
        have hx := cX_VR hG he hy
        simp only [evQ] at hv
        split at hv
        · rename_i cs hcs
          rw [hcs] at hx
          split at hv
          · rename_i r hr
            obtain ⟨vs, h1, h2, h3⟩ := VR_agg hx
            have hsub := VRs_sub hr h2
            obtain ⟨z, hz, hz'⟩ := run_part (P := P) (w := w) (cs := vs) hag hn hv hsub.1 (fun c hc => h3 c (sub_mem hr hc)) hsub.2
            exact ⟨z, by simp [execOp, hop, Instr.field, run_underlying hu, hfd, h1, asAgg, hz], hz'⟩
          · cases hv
        · cases hv
      · cases hc
    · cases hc
  · cases hc
theorem VR_sl {l off sz len cap : Nat} {ex : Bool} {v : Value} (hv : VR s w (.sl l off sz len cap ex) v) : ∃ b d m ad c, s.ρ l = some (b, d, m) ∧ v = .slice (some ad) len c ∧ len ≤ cap ∧
      ((ad = ⟨b, d + off, none⟩ ∧ cap ≤ c ∧ (ex = true → c = cap) ∧ off + c * sz ≤ m) ∨ (len = 0 ∧ c = 0 ∧ cap = 0 ∧ ex = false)) := by simpa only [VR] using hv
theorem VR_fsl {full : Bool} {sz : Nat} {es : List AV} {v : Value} (hv : VR s w (.fsl full sz es) v) : ∃ A c, v = .slice A es.length c ∧ es.length ≤ c ∧ (full = true → c = es.length) ∧
      (es = [] ∨ ∃ a rs, A = some a ∧ VRs s w es rs ∧ s.F a.block ∧ a.block < w.heap.size ∧ a.spot = none ∧ (∀ e ∈ es, e.elt = true) ∧ ∀ i r, rs[i]? = some r → r.cells.size = sz ∧ Holds w (a.add (i * sz)) r.cells.toList) := by simpa only [VR] using hv
theorem fsl_at {full : Bool} {sz : Nat} {es : List AV} {v : Value} (hv : VR s w (.fsl full sz es) v) {i : Nat} {x : AV} (hi : es[i]? = some x) :
    ∃ ad c, v = .slice (some ad) es.length c ∧ VR s w (.fptr x.cells) (.pointer (some (ad.add (i * sz)))) ∧ x.cells.length = sz := by
  obtain ⟨A, c, rfl, _, _, h4⟩ := VR_fsl hv
  rcases h4 with rfl | ⟨ad, rs, rfl, h5, h6, h7, h8, h9, h10⟩
  · cases hi
  · obtain ⟨r, hr, hvr⟩ := VRs_get h5 hi
    obtain ⟨h11, h12⟩ := h10 i r hr
    have hmem : x ∈ es := List.mem_of_getElem? hi
    obtain ⟨h13, h14⟩ := VR_cells hvr (h9 x hmem)
    refine ⟨ad, c, rfl, ?_, ?_⟩
    · simp only [VR]
      exact ⟨_, _, rfl, h13, h12, by rw [addr_block]; exact h6, by rw [addr_block]; exact h7, by unfold Addr.add; split <;> simp_all, h14⟩
    · have := VRs_length h13
      rw [← this]; simpa using h11
theorem q_iad {o : Oper} {t : TypeId} {x ix : Operand} (hop : o.op = .indexAddr t x ix) (hG : GlobR s w G) (he : EnvR s w e a) {i : I} (hc : cOp P o.op = some i) {v : AV} (hv : evQ U G i e h = some v) : QOK P s w o a v := by
  rw [hop] at hc
  simp only [cOp] at hc
  split at hc
  · rename_i el hu
    split at hc
    · rename_i n hn
      simp only [Option.bind_eq_bind, Option.bind_eq_some_iff, Option.some.injEq] at hc
      obtain ⟨x', hx, i', hi, rfl⟩ := hc
      have hxv := cX_VR hG he hx
      have hiv := cX_VR hG he hi
      have hrun : ∀ (ad : Addr) (len c : Nat) (k : IntKind) (j : Int), a.eval x = .slice (some ad) len c → a.eval ix = .int k j → 0 ≤ j → j < len → (execOp a.eval o).run P w = .ok (.value (.pointer (some (ad.add (j.toNat * n))))) w := by
        intro ad len c k j h1 h2 h3 h4
        simp [execOp, hop, Instr.indexAt, h1, h2, asIntOf, run_underlying hu, h3, h4, sizeOf_run hn]
      simp only [evQ] at hv
      split at hv
      · rename_i l off sz' len cap ex k j hl hj
        rw [hl] at hxv
        rw [hj] at hiv
        split at hv
        · rename_i hcond
          obtain ⟨rfl, h0, h1⟩ := hcond
          injection hv with hv
          subst hv
          obtain ⟨b, d, m, ad, c, h2, h3, h4, h5⟩ := VR_sl hxv
          rcases h5 with ⟨rfl, _⟩ | ⟨h5, _⟩
          · refine ⟨_, hrun _ _ _ _ _ h3 (VR_int hiv) h0 h1, ?_⟩
            simp only [VR]
            exact ⟨b, d, m, h2, by rw [addr_add, Nat.add_assoc]⟩
          · omega
        · cases hv
      · rename_i full sz' es k j hl hj
        rw [hl] at hxv
        rw [hj] at hiv
        split at hv
        · rename_i hcond
          obtain ⟨rfl, h0⟩ := hcond
          split at hv
          · rename_i y hy
            injection hv with hv
            subst hv
            obtain ⟨ad, c, h1, h2, _⟩ := fsl_at hxv hy
            have hlt : j.toNat < es.length := (List.getElem?_eq_some_iff.1 hy).1
            exact ⟨_, hrun _ _ _ _ _ h1 (VR_int hiv) h0 (by omega), h2⟩
          · cases hv
        · cases hv
      · cases hv
    · cases hc
  · rename_i k el hu
    split at hc
    · rename_i n hn
      simp only [Option.bind_eq_bind, Option.bind_eq_some_iff, Option.some.injEq] at hc
      obtain ⟨x', hx, i', hi, rfl⟩ := hc
      have hxv := cX_VR hG he hx
      have hiv := cX_VR hG he hi
      have hrun : ∀ (ad : Addr) (kk : IntKind) (j : Int), a.eval x = .pointer (some ad) → a.eval ix = .int kk j → 0 ≤ j → j < k → (execOp a.eval o).run P w = .ok (.value (.pointer (some (ad.add (j.toNat * n))))) w := by
        intro ad kk j h1 h2 h3 h4
        simp [execOp, hop, Instr.indexAt, h1, h2, asIntOf, run_underlying hu, h3, h4, sizeOf_run hn, Instr.sureAddr]
      simp only [evQ] at hv
      split at hv
      · rename_i l off kk j hl hj
        rw [hl] at hxv
        rw [hj] at hiv
        split at hv
        · rename_i hcond
          injection hv with hv
          subst hv
          obtain ⟨b, d, m, h1, h2⟩ := VR_ptr hxv
          refine ⟨_, hrun _ _ _ h2 (VR_int hiv) hcond.1 hcond.2, ?_⟩
          simp only [VR]
          exact ⟨b, d, m, h1, by rw [addr_add, Nat.add_assoc]⟩
        · cases hv
      · rename_i cs kk j hl hj
        rw [hl] at hxv
        rw [hj] at hiv
        split at hv
        · rename_i hcond
          injection hv with hv
          subst hv
          obtain ⟨ad, h1, h2⟩ := fptr_drop (j.toNat * n) hxv
          exact ⟨_, hrun _ _ _ h1 (VR_int hiv) hcond.1 hcond.2, h2⟩
        · cases hv
      · cases hv
    · cases hc
  · cases hc
theorem q_ix {o : Oper} {t : TypeId} {x ix : Operand} (hop : o.op = .index t x ix) (hG : GlobR s w G) (he : EnvR s w e a) {i : I} (hc : cOp P o.op = some i) {v : AV} (hv : evQ U G i e h = some v) : QOK P s w o a v := by
  rw [hop] at hc
  simp only [cOp] at hc
  split at hc
  · rename_i hu
    simp only [Option.bind_eq_bind, Option.bind_eq_some_iff, Option.some.injEq] at hc
    obtain ⟨x', hx, i', hi, rfl⟩ := hc
    have hxv := cX_VR hG he hx
    have hiv := cX_VR hG he hi
    simp only [evQ] at hv
    split at hv
    · rename_i l k j hl hj
      rw [hl] at hxv
      rw [hj] at hiv
      split at hv
      · rename_i h0
        split at hv
        · rename_i b hb
          injection hv with hv
          subst hv
          obtain ⟨bs, h1, h2⟩ := VR_str hxv
          subst h2
          rw [List.getElem?_map] at hb
          obtain ⟨u, hu', rfl⟩ := Option.map_eq_some_iff.1 hb
          have hget : bs[j.toNat]? = some u := by
            have hlt := (List.getElem?_eq_some_iff.1 hu').1
            have hlt' : j.toNat < bs.size := by simpa using hlt
            rw [getElem?_pos bs j.toNat hlt']
            congr 1
            have := (List.getElem?_eq_some_iff.1 hu').2
            rw [← this]
            rfl
          refine ⟨.int .u8 u.toNat, ?_, by simp only [VR]⟩
          simp [execOp, hop, Instr.index, h1, VR_int hiv, asIntOf, run_underlying hu, h0, hget]
        · cases hv
      · cases hv
    · cases hv
  · rename_i k el hu
    split at hc
    · rename_i ag n hag hn
      simp only [Option.bind_eq_bind, Option.bind_eq_some_iff, Option.some.injEq] at hc
      obtain ⟨x', hx, i', hi, rfl⟩ := hc
      have hxv := cX_VR hG he hx
      have hiv := cX_VR hG he hi
      simp only [evQ] at hv
      split at hv
      · rename_i cs kk j hl hj
        rw [hl] at hxv
        rw [hj] at hiv
        split at hv
        · rename_i hcond
          split at hv
          · rename_i r hr
            obtain ⟨vs, h1, h2, h3⟩ := VR_agg hxv
            have hsub := VRs_sub hr h2
            obtain ⟨z, hz, hz'⟩ := run_part (P := P) (w := w) (cs := vs) hag hn hv hsub.1 (fun c hc => h3 c (sub_mem hr hc)) hsub.2
            exact ⟨z, by simp [execOp, hop, Instr.index, h1, VR_int hiv, asIntOf, run_underlying hu, hcond.1, hcond.2, sizeOf_run hn, hz], hz'⟩
          · cases hv
        · cases hv
      · cases hv
    · cases hc
  · cases hc
theorem q_ext {o : Oper} {x : Operand} {n : Nat} (hop : o.op = .extract x n) (hG : GlobR s w G) (he : EnvR s w e a) {i : I} (hc : cOp P o.op = some i) {v : AV} (hv : evQ U G i e h = some v) : QOK P s w o a v := by
  rw [hop] at hc
  simp only [cOp] at hc
  obtain ⟨y, hy, rfl⟩ := do_some hc
  have hx := cX_VR hG he hy
  simp only [evQ] at hv
  split at hv
  · rename_i vs hvs
    rw [hvs] at hx
    obtain ⟨us, h1, h2⟩ := VR_tup hx
    obtain ⟨r, hr, hr'⟩ := VRs_get h2 hv
    have hr2 : us[n]? = some r := by simpa using hr
    exact ⟨r, by simp [execOp, hop, Instr.extract, h1, hr2], hr'⟩
  · cases hv
theorem bound_some {d most n : Nat} {v : AV} (hb : bound (some v) d most = some n) : ∃ k, v = .int k (n : Int) ∧ n ≤ most := by
  unfold bound at hb
  split at hb
  · rename_i heq; cases heq
  · rename_i k j heq
    injection heq with heq
    subst heq
    split at hb
    · rename_i hcond
      injection hb with hb
      subst hb
      exact ⟨k, by rw [Int.toNat_of_nonneg hcond.1], by omega⟩
    · cases hb
  · cases hb
theorem bound_run {d most n most' : Nat} {code : BoundsCode} {v : AV} {r : Value} (hb : bound (some v) d most = some n) (hm : most ≤ most') (hv : VR s w v r) : (Instr.sliceBound r most' code).run P w = .ok n w ∧ n ≤ most := by
  obtain ⟨k, rfl, hle⟩ := bound_some hb
  have := VR_int hv
  subst this
  exact ⟨by simp [Instr.sliceBound, asIntOf]; omega, hle⟩
theorem optX_none {y : Option X} (h : optX none = some y) : y = none := by simp only [optX] at h; cases h; rfl
theorem optX_some {x : Operand} {y : Option X} (h : optX (some x) = some y) : ∃ z, cX x = some z ∧ y = some z := by
  simp only [optX] at h
  obtain ⟨z, hz, rfl⟩ := Option.map_eq_some_iff.1 h
  exact ⟨z, hz, rfl⟩
def OptR (s : St) (w : World) : Option AV → Option Value → Prop
  | none, v => v = none
  | some x, v => ∃ y, v = some y ∧ VR s w x y
theorem optX_OptR (hG : GlobR s w G) (he : EnvR s w e a) {x : Option Operand} {y : Option X} (h : optX x = some y) : OptR s w (y.map (·.ev G e)) (x.map a.eval) := by
  cases x with
  | none => have := optX_none h; subst this; rfl
  | some z => obtain ⟨u, hu, rfl⟩ := optX_some h; exact ⟨_, rfl, cX_VR hG he hu⟩
theorem hi_run {d most b most' : Nat} {code : BoundsCode} {x : Option AV} {y : Option Value} (hb : bound x d most = some b) (hd : d ≤ most) (hm : most ≤ most') (hv : OptR s w x y) :
    ((match y with | some v => Instr.sliceBound v most' code | none => pure d : Sem Nat)).run P w = .ok b w ∧ b ≤ most := by
  cases x with
  | none =>
    simp only [OptR] at hv
    subst hv
    simp only [bound, Option.some.injEq] at hb
    subst hb
    exact ⟨rfl, hd⟩
  | some x =>
    simp only [OptR] at hv
    obtain ⟨z, rfl, hz⟩ := hv
    exact bound_run hb hm hz
theorem bounds_run {isS : Bool} {len cap cap' b c : Nat} {lo hi : Option AV} {lo' hi' : Option Value} (hlo : OptR s w lo lo') (hhi : OptR s w hi hi')
    (hb : bound hi len cap = some b) (hc : bound lo 0 b = some c) (hl : len ≤ cap) (hcc : cap ≤ cap') :
    (Instr.sliceBounds isS len cap' lo' hi' none).run P w = .ok (c, b, cap') w ∧ c ≤ b ∧ b ≤ cap := by
  have h1 := fun code => hi_run (P := P) (code := code) hb hl hcc hhi
  have h2 := fun code => hi_run (P := P) (code := code) hc (Nat.zero_le _) (Nat.le_refl _) hlo
  refine ⟨?_, (h2 .sliceB).2, (h1 .sliceAcap).2⟩
  have h1' := (h1 (if isS then .sliceAcap else .sliceAlen)).1
  have h2' := (h2 .sliceB).1
  unfold Instr.sliceBounds
  cases hi' <;> cases lo' <;> simp_all
theorem bounds3_run {len cap cap' b c m : Nat} {lo : Option AV} {hv mv : AV} {lo' : Option Value} {hr mr : Value} (hlo : OptR s w lo lo') (hhi : VR s w hv hr) (hmx : VR s w mv mr)
    (hm : bound (some mv) 0 cap = some m) (hb : bound (some hv) 0 m = some b) (hc : bound lo 0 b = some c) (hcc : cap ≤ cap') :
    (Instr.sliceBounds true len cap' lo' (some hr) (some mr)).run P w = .ok (c, b, m) w ∧ c ≤ b ∧ b ≤ m ∧ m ≤ cap := by
  have h0 := bound_run (P := P) (code := .slice3Acap) hm hcc hmx
  have h1 := bound_run (P := P) (code := .slice3B) hb (Nat.le_refl _) hhi
  have h2 := fun code => hi_run (P := P) (code := code) hc (Nat.zero_le _) (Nat.le_refl _) hlo
  refine ⟨?_, (h2 .sliceB).2, h1.2, h0.2⟩
  have h2' := (h2 .slice3C).1
  have h0' := h0.1
  have h1' := h1.1
  unfold Instr.sliceBounds
  cases lo' <;> simp_all
end
end Go.Eng
namespace Go.Eng
section
variable {P : Program} {s : St} {h : H} {w : World} {G : Nat → AV} {e : Env} {a : Act} {U : List (TypeId × TypeId)}
/-! ### slices -/
theorem run_slice {o : Oper} {t : TypeId} {x : Operand} {lo hi mx : Option Operand} (hop : o.op = .slice t x lo hi mx) {v : Value} (hn : ∀ n e, P.underlying t ≠ some (.array n e)) {d : TypeDesc} (hd : P.underlying t = some d)
    (hr : (Instr.slice t (a.eval x) (lo.map a.eval) (hi.map a.eval) (mx.map a.eval)).run P w = .ok v w) : (execOp a.eval o).run P w = .ok (.value v) w := by
  simp only [execOp, hop, Instr.sliceAt, Sem.run_bind, run_underlying hd, Result.andThen_ok]
  cases d <;> first | exact absurd hd (hn _ _) | simp [hr]
theorem q_sS {o : Oper} {t : TypeId} {x : Operand} {lo hi mx : Option Operand} (hop : o.op = .slice t x lo hi mx) (hu : P.underlying t = some .string) (hG : GlobR s w G) (he : EnvR s w e a) {i : I} (hc : cOp P o.op = some i) {v : AV} (hv : evQ U G i e h = some v) : QOK P s w o a v := by
  rw [hop] at hc
  simp only [cOp, hu] at hc
  split at hc
  · simp only [Option.bind_eq_bind, Option.bind_eq_some_iff, Option.some.injEq] at hc
    obtain ⟨x', hx, lo', hlo, hi', hhi, rfl⟩ := hc
    have hxv := cX_VR hG he hx
    simp only [evQ] at hv
    split at hv
    · rename_i l hl
      rw [hl] at hxv
      split at hv
      · rename_i b hb
        split at hv
        · rename_i c hcc
          injection hv with hv
          subst hv
          obtain ⟨bs, h1, h2⟩ := VR_str hxv
          have hlen := str_len h2
          rw [hlen] at hb
          obtain ⟨hr, hcb, hbl⟩ := bounds_run (P := P) (w := w) (isS := false) (optX_OptR hG he hlo) (optX_OptR hG he hhi) hb hcc (Nat.le_refl _) (Nat.le_refl _)
          refine ⟨.string (bs.extract c b), run_slice hop (fun n e hh => by rw [hu] at hh; cases hh) hu ?_, ?_⟩
          · simp only [Option.map_none, Instr.slice, Sem.run_bind, run_underlying hu, Result.andThen_ok, h1]
            simp [hr]
          · simp only [VR]
            refine ⟨_, rfl, ?_⟩
            rw [← h2]
            simp only [ByteArray.data_extract, Array.toList_extract, List.extract_eq_take_drop]
            rw [List.map_take, List.map_drop, List.drop_take]
        · cases hv
      · cases hv
    · cases hv
  · cases hc
theorem ite_addr (c : Prop) [Decidable c] (ad : Addr) (k : Nat) : (if c then some ad else (some ad).map (·.add k)) = some (if c then ad else ad.add k) := by split <;> rfl
theorem cutO_sound {t el : TypeId} {n l off len cap : Nat} {ex : Bool} {lo hi mx : Option AV} {lo' hi' mx' : Option Value} {v : AV} {x : Value} (hu : P.underlying t = some (.slice el)) (hn : size P el = some (n + 1))
    (hlo : OptR s w lo lo') (hhi : OptR s w hi hi') (hmx : OptR s w mx mx') (hx : VR s w (.sl l off (n + 1) len cap ex) x) (hv : cutO l off (n + 1) len cap ex lo hi mx = some v) :
    ∃ r, (Instr.slice t x lo' hi' mx').run P w = .ok r w ∧ VR s w v r := by
  obtain ⟨bk, d, m, ad, cp, h1, rfl, h3, h4⟩ := VR_sl hx
  have hcap : cap ≤ cp := by rcases h4 with ⟨_, h, _⟩ | ⟨_, _, h, _⟩ <;> omega
  unfold cutO at hv
  split at hv
  ·
    simp only [OptR] at hmx
    subst hmx
    split at hv
    · rename_i b hb
      split at hv
      · rename_i c hcc
        obtain ⟨hr, hcb, hbl⟩ := bounds_run (P := P) (w := w) (isS := true) hlo hhi hb hcc h3 hcap
        have hrun : (Instr.slice t (.slice (some ad) len cp) lo' hi' none).run P w = .ok (.slice (some (if cp = c then ad else ad.add (c * (n + 1)))) (b - c) (cp - c)) w := by
          simp only [Instr.slice, Sem.run_bind, run_underlying hu, Result.andThen_ok]
          simp only [hr, Sem.run_bind, Result.andThen_ok, sizeOf_run hn, Sem.run_pure]
          split <;> rfl
        refine ⟨_, hrun, ?_⟩
        split at hv
        · rename_i hcond
          injection hv with hv
          subst hv
          simp only [Bool.and_eq_true, beq_iff_eq] at hcond
          obtain ⟨rfl, rfl⟩ := hcond
          have hcpc : cp = cap := by rcases h4 with ⟨_, _, h, _⟩ | ⟨_, _, _, h⟩ <;> first | exact h rfl | cases h
          have hb0 : b - cap = 0 := by omega
          rw [hb0, hcpc]
          simp only [VR]
          exact ⟨_, _, rfl, by simp, fun _ => by simp, .inl (by trivial)⟩
        · rename_i hcond
          injection hv with hv
          subst hv
          simp only [Bool.and_eq_true, beq_iff_eq, not_and] at hcond
          simp only [VR]
          refine ⟨bk, d, m, _, _, h1, rfl, by omega, ?_⟩
          rcases h4 with ⟨rfl, h5, h6, h7⟩ | ⟨rfl, rfl, rfl, rfl⟩
          · by_cases hcc0 : cp = c
            · have hex : ex = false := by
                cases ex
                · rfl
                · have := h6 rfl; have := hcond rfl; omega
              exact .inr ⟨by omega, by omega, by omega, hex⟩
            · left
              rw [if_neg hcc0]
              refine ⟨by rw [addr_add, Nat.add_assoc], by omega, fun hex => by rw [h6 hex], ?_⟩
              have h8 : c * (n + 1) + (cp - c) * (n + 1) = cp * (n + 1) := by rw [← Nat.add_mul]; congr 1; omega
              omega
          · exact .inr ⟨by omega, by omega, by omega, rfl⟩
      · cases hv
    · cases hv
  · rename_i mv
    simp only [OptR] at hmx
    obtain ⟨mr, rfl, hmr⟩ := hmx
    split at hv
    · rename_i hv'
      simp only [OptR] at hhi
      obtain ⟨hr', rfl, hhr⟩ := hhi
      split at hv
      · rename_i m' hm
        split at hv
        · rename_i b hb
          split at hv
          · rename_i c hcc
            obtain ⟨hr, hcb, hbm, hmc⟩ := bounds3_run (P := P) (w := w) (len := len) hlo hhr hmr hm hb hcc hcap
            have hrun : (Instr.slice t (.slice (some ad) len cp) lo' (some hr') (some mr)).run P w = .ok (.slice (some (if m' = c then ad else ad.add (c * (n + 1)))) (b - c) (m' - c)) w := by
              simp only [Instr.slice, Sem.run_bind, run_underlying hu, Result.andThen_ok]
              simp only [hr, Sem.run_bind, Result.andThen_ok, sizeOf_run hn, Sem.run_pure]
              split <;> rfl
            refine ⟨_, hrun, ?_⟩
            split at hv
            · rename_i hmc0
              injection hv with hv
              subst hv
              have hb0 : b - c = 0 := by omega
              have hm0 : m' - c = 0 := by omega
              rw [hb0, hm0]
              simp only [VR]
              exact ⟨_, _, rfl, by simp, fun _ => by simp, .inl (by trivial)⟩
            · rename_i hmc0
              injection hv with hv
              subst hv
              rcases h4 with ⟨rfl, h5, h6, h7⟩ | ⟨rfl, rfl, rfl, rfl⟩
              · simp only [VR]
                refine ⟨bk, d, m, _, _, h1, rfl, by omega, .inl ?_⟩
                rw [if_neg hmc0]
                refine ⟨by rw [addr_add, Nat.add_assoc], by omega, fun _ => rfl, ?_⟩
                have h8 : c * (n + 1) + (m' - c) * (n + 1) ≤ cp * (n + 1) := by rw [← Nat.add_mul]; exact Nat.mul_le_mul_right _ (by omega)
                omega
              · omega
          · cases hv
        · cases hv
      · cases hv
    · cases hv
theorem fsl_cut {full full' : Bool} {sz b c cp cp' : Nat} {es : List AV} {A : Option Addr} (hv : VR s w (.fsl full sz es) (.slice A es.length cp)) (hcb : c ≤ b) (hb : b ≤ es.length) (hcp : b ≤ cp') (hf : full' = true → cp' = b) :
    VR s w (.fsl full' sz ((es.take b).drop c)) (.slice (if cp' = c then A else A.map (·.add (c * sz))) (b - c) (cp' - c)) := by
  obtain ⟨A', c', heq, h2, h3, h4⟩ := VR_fsl hv
  injection heq with e1 e2 e3
  subst e1
  subst e3
  have hlen : ((es.take b).drop c).length = b - c := by simp; omega
  simp only [VR]
  refine ⟨_, _, by rw [hlen], by rw [hlen]; omega, fun h => by rw [hlen, hf h], ?_⟩
  by_cases hz : b = c
  · left
    rw [List.drop_eq_nil_iff]; simp; omega
  · right
    rcases h4 with rfl | ⟨ad, rs, rfl, h5, h6, h7, h8, h9, h10⟩
    · simp at hb; omega
    · rw [if_neg (by omega)]
      refine ⟨ad.add (c * sz), (rs.take b).drop c, rfl, VRs_drop (VRs_take h5 b) c, by rw [addr_block]; exact h6, by rw [addr_block]; exact h7, by unfold Addr.add; split <;> simp_all, fun x hx => h9 x (List.mem_of_mem_take (List.mem_of_mem_drop hx)), fun i r hr => ?_⟩
      rw [List.getElem?_drop, List.getElem?_take] at hr
      split at hr
      · obtain ⟨h11, h12⟩ := h10 _ r hr
        rw [addr_add2, ← Nat.add_mul]
        exact ⟨h11, h12⟩
      · cases hr
theorem cutF_sound {t el : TypeId} {n : Nat} {full : Bool} {es : List AV} {lo hi mx : Option AV} {lo' hi' mx' : Option Value} {v : AV} {x : Value} (hu : P.underlying t = some (.slice el)) (hn : size P el = some (n + 1))
    (hlo : OptR s w lo lo') (hhi : OptR s w hi hi') (hmx : OptR s w mx mx') (hx : VR s w (.fsl full (n + 1) es) x) (hv : cutF full (n + 1) es lo hi mx = some v) :
    ∃ r, (Instr.slice t x lo' hi' mx').run P w = .ok r w ∧ VR s w v r := by
  obtain ⟨A, cp, rfl, h2, h3, _⟩ := VR_fsl hx
  unfold cutF at hv
  split at hv
  · simp only [OptR] at hmx
    subst hmx
    split at hv
    · rename_i b hb
      split at hv
      · rename_i c hcc
        obtain ⟨hr, hcb, hbl⟩ := bounds_run (P := P) (w := w) (isS := true) hlo hhi hb hcc (Nat.le_refl _) h2
        refine ⟨.slice (if cp = c then A else A.map (·.add (c * (n + 1)))) (b - c) (cp - c), ?_, ?_⟩
        · simp only [Instr.slice, Sem.run_bind, run_underlying hu, Result.andThen_ok]
          simp only [hr, Sem.run_bind, Result.andThen_ok, sizeOf_run hn, Sem.run_pure]
        · injection hv with hv
          subst hv
          refine fsl_cut hx hcb hbl (by omega) fun hh => ?_
          simp only [Bool.and_eq_true, beq_iff_eq] at hh
          have := h3 hh.1
          omega
      · cases hv
    · cases hv
  · rename_i mv
    simp only [OptR] at hmx
    obtain ⟨mr, rfl, hmr⟩ := hmx
    split at hv
    · rename_i hv'
      simp only [OptR] at hhi
      obtain ⟨hr', rfl, hhr⟩ := hhi
      split at hv
      · rename_i m' hm
        split at hv
        · rename_i b hb
          split at hv
          · rename_i c hcc
            obtain ⟨hr, hcb, hbm, hmc⟩ := bounds3_run (P := P) (w := w) (len := es.length) hlo hhr hmr hm hb hcc h2
            refine ⟨.slice (if m' = c then A else A.map (·.add (c * (n + 1)))) (b - c) (m' - c), ?_, ?_⟩
            · simp only [Instr.slice, Sem.run_bind, run_underlying hu, Result.andThen_ok]
              simp only [hr, Sem.run_bind, Result.andThen_ok, sizeOf_run hn, Sem.run_pure]
            · injection hv with hv
              subst hv
              refine fsl_cut hx hcb (by omega) (by omega) fun hh => ?_
              simp only [beq_iff_eq] at hh
              omega
          · cases hv
        · cases hv
      · cases hv
    · cases hv
theorem cutN_sound {t el : TypeId} {n : Nat} {lo hi mx : Option AV} {lo' hi' mx' : Option Value} {v : AV} (hu : P.underlying t = some (.slice el)) (hn : size P el = some (n + 1))
    (hlo : OptR s w lo lo') (hhi : OptR s w hi hi') (hmx : OptR s w mx mx') (hv : cutN lo hi mx = some v) :
    ∃ r, (Instr.slice t (.slice none 0 0) lo' hi' mx').run P w = .ok r w ∧ VR s w v r := by
  unfold cutN at hv
  split at hv
  · simp only [OptR] at hmx
    subst hmx
    split at hv
    · rename_i b hb
      split at hv
      · rename_i c hcc
        obtain ⟨hr, hcb, hbl⟩ := bounds_run (P := P) (w := w) (isS := true) hlo hhi hb hcc (Nat.le_refl _) (Nat.le_refl _)
        injection hv with hv
        subst hv
        have h1 : b - c = 0 := by omega
        have h2 : 0 - c = 0 := by omega
        refine ⟨.slice none 0 0, ?_, by simp only [VR]⟩
        simp only [Instr.slice, Sem.run_bind, run_underlying hu, Result.andThen_ok]
        simp only [hr, Sem.run_bind, Result.andThen_ok, sizeOf_run hn, Sem.run_pure, h1, h2, Option.map_none, ite_self]
      · cases hv
    · cases hv
  · rename_i mv
    simp only [OptR] at hmx
    obtain ⟨mr, rfl, hmr⟩ := hmx
    split at hv
    · rename_i hv'
      simp only [OptR] at hhi
      obtain ⟨hr', rfl, hhr⟩ := hhi
      split at hv
      · rename_i m' hm
        split at hv
        · rename_i b hb
          split at hv
          · rename_i c hcc
            obtain ⟨hr, hcb, hbm, hmc⟩ := bounds3_run (P := P) (w := w) (len := 0) hlo hhr hmr hm hb hcc (Nat.le_refl _)
            injection hv with hv
            subst hv
            have h1 : b - c = 0 := by omega
            have h2 : m' - c = 0 := by omega
            refine ⟨.slice none 0 0, ?_, by simp only [VR]⟩
            simp only [Instr.slice, Sem.run_bind, run_underlying hu, Result.andThen_ok]
            simp only [hr, Sem.run_bind, Result.andThen_ok, sizeOf_run hn, Sem.run_pure, h1, h2, Option.map_none, ite_self]
          · cases hv
        · cases hv
      · cases hv
    · cases hv
theorem q_sL {o : Oper} {t el : TypeId} {x : Operand} {lo hi mx : Option Operand} (hop : o.op = .slice t x lo hi mx) (hu : P.underlying t = some (.slice el)) (hG : GlobR s w G) (he : EnvR s w e a) {i : I} (hc : cOp P o.op = some i) {v : AV} (hv : evQ U G i e h = some v) : QOK P s w o a v := by
  rw [hop] at hc
  simp only [cOp, hu] at hc
  split at hc
  · rename_i n hn
    simp only [Option.bind_eq_bind, Option.bind_eq_some_iff, Option.some.injEq] at hc
    obtain ⟨x', hx, lo', hlo, hi', hhi, mx', hmx, rfl⟩ := hc
    have hxv := cX_VR hG he hx
    have hne : ∀ n e, P.underlying t ≠ some (.array n e) := fun n e hh => by rw [hu] at hh; cases hh
    have hlo := optX_OptR hG he hlo
    have hhi := optX_OptR hG he hhi
    have hmx := optX_OptR hG he hmx
    simp only [evQ] at hv
    have key : ∃ r, (Instr.slice t (a.eval x) (lo.map a.eval) (hi.map a.eval) (mx.map a.eval)).run P w = .ok r w ∧ VR s w v r := by
      split at hv
      · rename_i hl
        rw [hl] at hxv
        have hxn : a.eval x = .slice none 0 0 := by simpa only [VR] using hxv
        rw [hxn]
        exact cutN_sound hu hn hlo hhi hmx hv
      · rename_i hl
        rw [hl] at hxv
        split at hv
        · rename_i hsz
          subst hsz
          exact cutO_sound hu hn hlo hhi hmx hxv hv
        · cases hv
      · rename_i hl
        rw [hl] at hxv
        split at hv
        · rename_i hsz
          subst hsz
          exact cutF_sound hu hn hlo hhi hmx hxv hv
        · cases hv
      · cases hv
    obtain ⟨r, h1, h2⟩ := key
    exact ⟨r, run_slice hop hne hu h1, h2⟩
  · cases hc
theorem q_sA {o : Oper} {t el : TypeId} {k : Nat} {x : Operand} {lo hi mx : Option Operand} (hop : o.op = .slice t x lo hi mx) (hu : P.underlying t = some (.array k el)) (hr : Rel s h w) (hG : GlobR s w G) (he : EnvR s w e a) {i : I} (hc : cOp P o.op = some i) {v : AV} (hv : evQ U G i e h = some v) : QOK P s w o a v := by
  rw [hop] at hc
  simp only [cOp, hu] at hc
  split at hc
  · rename_i n hn
    simp only [Option.bind_eq_bind, Option.bind_eq_some_iff, Option.some.injEq] at hc
    obtain ⟨x', hx, lo', hlo, hi', hhi, rfl⟩ := hc
    have hxv := cX_VR hG he hx
    have hlo := optX_OptR hG he hlo
    have hhi := optX_OptR hG he hhi
    simp only [evQ] at hv
    split at hv
    · rename_i l off hl
      rw [hl] at hxv
      split at hv
      · rename_i cs ty fz hget
        split at hv
        · rename_i hfit
          obtain ⟨bk, d, m, h1, h2⟩ := VR_ptr hxv
          have hobj := hr.obj l bk d m _ h1 hget
          obtain ⟨c0, lo0, hi0, _, _, _, hcsm, _⟩ := hobj
          unfold cutO at hv
          simp only at hv
          split at hv
          · rename_i b hb
            split at hv
            · rename_i c hcc
              obtain ⟨hrun, hcb, hbl⟩ := bounds_run (P := P) (w := w) (isS := false) hlo hhi hb hcc (Nat.le_refl _) (Nat.le_refl _)
              have hexec : (execOp a.eval o).run P w = .ok (.value (.slice (some (if k = c then ⟨bk, d + off, none⟩ else (⟨bk, d + off, none⟩ : Addr).add (c * (n + 1)))) (b - c) (k - c))) w := by
                simp [execOp, hop, Instr.sliceAt, run_underlying hu, Instr.sureAddr, h2, hrun, sizeOf_run hn]
              refine ⟨_, hexec, ?_⟩
              split at hv
              · rename_i hcond
                injection hv with hv
                subst hv
                simp only [Bool.true_and, beq_iff_eq] at hcond
                have hb0 : b - c = 0 := by omega
                have hm0 : k - c = 0 := by omega
                rw [hb0, hm0]
                simp only [VR]
                exact ⟨_, _, rfl, by simp, fun _ => by simp, .inl (by trivial)⟩
              · rename_i hcond
                injection hv with hv
                subst hv
                simp only [Bool.true_and, beq_iff_eq] at hcond
                simp only [VR]
                refine ⟨bk, d, m, _, _, h1, rfl, by omega, .inl ?_⟩
                rw [if_neg hcond]
                refine ⟨by rw [addr_add, Nat.add_assoc], by omega, fun _ => rfl, ?_⟩
                have h8 : c * (n + 1) + (k - c) * (n + 1) = k * (n + 1) := by rw [← Nat.add_mul]; congr 1; omega
                omega
            · cases hv
          · cases hv
        · cases hv
      · cases hv
    · cases hv
  · cases hc
end
end Go.Eng
namespace Go.Eng
section
variable {P : Program} {s : St} {h : H} {w : World} {G : Nat → AV} {e : Env} {a : Act} {U : List (TypeId × TypeId)}
theorem bytes_ext {x y : ByteArray} (h : x.data.toList.map UInt8.toNat = y.data.toList.map UInt8.toNat) : x = y := by
  have h1 : x.data.toList = y.data.toList := by
    have inj : Function.Injective UInt8.toNat := fun a b h => UInt8.toNat_inj.1 h
    exact List.map_inj_right (fun _ _ h => inj h) |>.1 h
  cases x; cases y
  simp at h1
  rw [h1]
theorem bytes_beq (x y : ByteArray) : (x == y) = decide (x.data.toList.map UInt8.toNat = y.data.toList.map UInt8.toNat) := by
  by_cases h : x = y
  · subst h; simp [beq_toListBytes]
  · rw [decide_eq_false (fun e => h (bytes_ext e)), beq_toListBytes, ByteArray.toList_eq, ByteArray.toList_eq]
    simp
    intro e
    exact h (by cases x; cases y; simp at e; rw [e])
theorem ltB_bytes : ∀ (x y : List UInt8), Op.bytesLess x y = ltB (x.map UInt8.toNat) (y.map UInt8.toNat)
  | _, [] => by simp [Op.bytesLess, ltB]
  | [], _ :: _ => by simp [Op.bytesLess, ltB]
  | a :: x, b :: y => by
    simp only [Op.bytesLess, ltB, List.map_cons, ltB_bytes x y]
    by_cases h1 : a.toNat < b.toNat
    · have : a < b := UInt8.lt_iff_toNat_lt.2 h1
      simp [h1, this]
    · have hn : ¬ a < b := fun h => h1 (UInt8.lt_iff_toNat_lt.1 h)
      by_cases h2 : a.toNat = b.toNat
      · have : a = b := UInt8.toNat_inj.1 h2
        subst this
        simp [h1]
      · have : a ≠ b := fun h => h2 (by rw [h])
        simp [h1, h2, hn, this]
theorem beq_int (a b : Int) : (a == b) = decide (a = b) := by
  by_cases h : a = b <;> simp [h]
theorem eqP_run (hr : Rel s h w) {x y : AV} {u v : Value} {b : Bool} (hx : VR s w x u) (hy : VR s w y v) (hb : eqP h x y = some b) {t el : TypeId} {n : Nat} (ht : P.underlying t = some (.pointer el)) (hn : size P el = some (n + 1)) (d : Nat) :
    (Op.equalIn (d + 1) t u v).run P w = .ok b w := by
  unfold eqP at hb
  split at hb <;> first | cases hb | skip
  · simp only [VR] at hx hy; subst hx; subst hy
    simp [Op.equalIn, run_underlying ht]
  · simp only [VR] at hx; obtain ⟨bk, d', m, _, rfl⟩ := VR_ptr hy; subst hx
    simp [Op.equalIn, run_underlying ht]
  · simp only [VR] at hy; obtain ⟨bk, d', m, _, rfl⟩ := VR_ptr hx; subst hy
    simp [Op.equalIn, run_underlying ht]
  · simp only [VR] at hx hy; obtain ⟨ad, rs, rfl, _⟩ := hy; subst hx
    simp [Op.equalIn, run_underlying ht]
  · simp only [VR] at hx hy; obtain ⟨ad, rs, rfl, _⟩ := hx; subst hy
    simp [Op.equalIn, run_underlying ht]
  · rename_i l o l' o'
    obtain ⟨b1, d1, m1, h1, rfl⟩ := VR_ptr hx
    obtain ⟨b2, d2, m2, h2, rfl⟩ := VR_ptr hy
    split at hb
    · rename_i hl
      subst hl
      rw [h1] at h2
      injection h2 with h2
      injection h2 with h2 h3
      injection h3 with h3 h4
      subst h2; subst h3; subst h4
      injection hb with hb
      subst hb
      simp only [Op.equalIn, Sem.run_bind, run_underlying ht, Result.andThen_ok, sizeOf_run hn]
      have hne : n + 1 ≠ 0 := by omega
      simp [sameAddr, beq_int]
      by_cases ho : o = o'
      · subst ho; simp
      · have : ¬ d1 + o = d1 + o' := by omega
        simp [ho, this]
    · rename_i hl
      split at hb
      · rename_i hpl
        injection hb with hb
        subst hb
        simp only [Bool.and_eq_true] at hpl
        have look : ∀ {l o b d m : Nat}, plainObj h l o = true → s.ρ l = some (b, d, m) → (h.get l).isSome = true ∧ ∃ c e lo hi, w.heap[b]? = some (.cells c e (lo, hi)) ∧ hi ≤ d ∧ c.size = d + m := by
          intro l o b d m hp hρ
          unfold plainObj at hp
          split at hp
          · rename_i cs ty hget
            refine ⟨by rw [hget]; rfl, ?_⟩
            obtain ⟨c, lo, hi, g1, g2, g3, _⟩ := hr.obj l b d m _ hρ hget
            exact ⟨c, _, lo, hi, g1, by have := g2 0 rfl; omega, g3⟩
          · cases hp
        obtain ⟨L1, c1, e1, lo1, hi1, g1, g2, g3⟩ := look hpl.1 h1
        obtain ⟨L2, c2, e2, lo2, hi2, k1, k2, k3⟩ := look hpl.2 h2
        have hbne : b1 ≠ b2 := by
          intro e
          subst e
          exact hl (hr.inj l l' b1 d1 m1 d2 m2 h1 h2 L1 L2)
        have f1 : w.frozen? ⟨b1, d1 + o, none⟩ = false := by simp [World.frozen?, g1]; omega
        have f2 : w.frozen? ⟨b2, d2 + o', none⟩ = false := by simp [World.frozen?, k1]; omega
        have f3 : w.frozen? ⟨b1, c1.size, none⟩ = false := by simp [World.frozen?, g1]; omega
        have f4 : w.frozen? ⟨b2, c2.size, none⟩ = false := by simp [World.frozen?, k1]; omega
        have s1 : w.shape? b1 = some (e1, c1.size) := by simp [World.shape?, g1]
        have s2 : w.shape? b2 = some (e2, c2.size) := by simp [World.shape?, k1]
        simp only [Op.equalIn, Sem.run_bind, run_underlying ht, Result.andThen_ok, sizeOf_run hn]
        have hne : n + 1 ≠ 0 := by omega
        simp [sameAddr, hbne, frozen, Sem.run, f1, f2, noView, viewAt, shape, s1, s2, mayBeOne, stringish, f3, f4]
      · cases hb
theorem eqK_run (hr : Rel s h w) {k : KK} {x y : AV} {u v : Value} {b : Bool} (hx : VR s w x u) (hy : VR s w y v) (hb : eqK h k x y = some b) {t : TypeId} (ht : kkOf P t = some k) (d : Nat) :
    (Op.equalIn (d + 1) t u v).run P w = .ok b w := by
  unfold kkOf at ht
  cases k with
  | int =>
    cases x <;> cases y <;> simp only [eqK] at hb <;> first | (cases hb; done) | skip
    rename_i k1 n1 k2 n2
    split at hb
    · rename_i hk
      subst hk
      injection hb with hb
      subst hb
      have h1 := VR_int hx
      have h2 := VR_int hy
      subst h1; subst h2
      split at ht <;> first | cases ht | skip
      · rename_i kk hu
        simp [Op.equalIn, run_underlying hu, beq_int]
      · split at ht <;> cases ht
    · cases hb
  | str =>
    cases x <;> cases y <;> simp only [eqK] at hb <;> first | (cases hb; done) | skip
    rename_i l1 l2
    injection hb with hb
    subst hb
    obtain ⟨b1, rfl, rfl⟩ := VR_str hx
    obtain ⟨b2, rfl, rfl⟩ := VR_str hy
    split at ht <;> first | cases ht | skip
    · rename_i hu
      simp [Op.equalIn, run_underlying hu, bytes_beq]
    · split at ht <;> cases ht
  | bool =>
    cases x <;> cases y <;> simp only [eqK] at hb <;> first | (cases hb; done) | skip
    rename_i b1 b2
    injection hb with hb
    subst hb
    have h1 := VR_bool hx
    have h2 := VR_bool hy
    subst h1; subst h2
    split at ht <;> first | cases ht | skip
    · rename_i hu
      simp [Op.equalIn, run_underlying hu]
    · split at ht <;> cases ht
  | ptr =>
    have hb : eqP h x y = some b := by cases x <;> cases y <;> exact hb
    split at ht <;> first | cases ht | skip
    rename_i el hu
    split at ht
    · rename_i n hn
      exact eqP_run hr hx hy hb hu hn d
    · cases ht
theorem kk_notAgg {t : TypeId} {k : KK} (ht : kkOf P t = some k) (w : World) : (isAgg t).run P w = .ok false w := by
  unfold kkOf at ht
  unfold isAgg
  split at ht <;> first | cases ht | skip
  all_goals rename_i hu; simp [run_underlying hu]
theorem eqKs_run (hr : Rel s h w) (d : Nat) (xs ys : Array Value) : ∀ (fs : List Field) (j : Nat) (ks : List KK) (aas bs : List AV) (b : Bool), kksOf P fs j = some ks → VRs s w aas (xs.toList.drop j) → VRs s w bs (ys.toList.drop j) → eqKs h ks aas bs = some b →
    (Op.eqFields (d + 1) xs ys fs).run P w = .ok b w
  | [], j, ks, aas, bs, b, hk, _, _, hb => by
    simp only [kksOf] at hk
    injection hk with hk
    subst hk
    cases aas <;> cases bs <;> simp only [eqKs] at hb <;> first | cases hb | skip
    simp [Op.eqFields]
  | f :: fs, j, ks, aas, bs, b, hk, ha, hb', hb => by
    simp only [kksOf] at hk
    split at hk
    · rename_i hf
      split at hk
      · rename_i k ks' hk1 hks
        injection hk with hk
        subst hk
        cases aas with
        | nil => simp only [eqKs] at hb; cases hb
        | cons x aas =>
          cases bs with
          | nil => simp only [eqKs] at hb; cases hb
          | cons y bs =>
            simp only [eqKs] at hb
            simp only [VRs] at ha hb'
            obtain ⟨u, us, hus, hu, ha⟩ := ha
            obtain ⟨v, vs, hvs, hv, hb'⟩ := hb'
            have hxj : xs[j]? = some u := by
              have : (xs.toList.drop j)[0]? = some u := by rw [hus]; rfl
              rw [List.getElem?_drop] at this
              simpa using this
            have hyj : ys[j]? = some v := by
              have : (ys.toList.drop j)[0]? = some v := by rw [hvs]; rfl
              rw [List.getElem?_drop] at this
              simpa using this
            have hus' : xs.toList.drop (j + 1) = us := by
              have := congrArg List.tail hus
              simpa using this
            have hvs' : ys.toList.drop (j + 1) = vs := by
              have := congrArg List.tail hvs
              simpa using this
            have hp1 : (part f.type xs f.offset).run P w = .ok u w := by simp [part, kk_notAgg hk1, hf.2, hxj]
            have hp2 : (part f.type ys f.offset).run P w = .ok v w := by simp [part, kk_notAgg hk1, hf.2, hyj]
            split at hb
            · rename_i he
              have hq := eqK_run (P := P) hr hu hv he hk1 d
              have ih := eqKs_run hr d xs ys fs (j + 1) ks' aas bs b hks (by rw [hus']; exact ha) (by rw [hvs']; exact hb') hb
              simp [Op.eqFields, hf.1, hp1, hp2, hq, ih]
            · rename_i he
              split at hb
              · injection hb with hb
                subst hb
                have hq := eqK_run (P := P) hr hu hv he hk1 d
                simp [Op.eqFields, hf.1, hp1, hp2, hq]
              · cases hb
            · cases hb
      · cases hk
    · cases hk
theorem eqKey_run (hr : Rel s h w) {q : KT} {x y : AV} {u v : Value} {b : Bool} (hx : VR s w x u) (hy : VR s w y v) (hb : eqKey h q x y = some b) {t : TypeId} (ht : ktOf P t = some q) : (Op.equal t u v).run P w = .ok b w := by
  unfold ktOf at ht
  split at ht
  · rename_i fs hu
    split at ht
    · rename_i ks hks
      split at ht
      · rename_i hst
        injection ht with ht
        subst ht
        cases x <;> cases y <;> simp only [eqKey] at hb <;> first | cases hb | skip
        rename_i aas bs
        obtain ⟨us, rfl, h1, _⟩ := VR_agg hx
        obtain ⟨vs, rfl, h2, _⟩ := VR_agg hy
        have hfs : P.fieldsOf t = fs := by simp [Program.fieldsOf, hu]
        have := run_equalIn_struct (P := P) w 9999 t us vs (by rw [hfs]; exact hu) hst
        unfold Op.equal Op.maxDepth
        rw [this, hfs]
        exact eqKs_run hr 9998 us vs fs.toList 0 ks aas bs b hks (by simpa using h1) (by simpa using h2) hb
      · cases ht
    · cases ht
  · obtain ⟨k, hk, rfl⟩ := Option.map_eq_some_iff.1 ht
    have hb : eqK h k x y = some b := by cases x <;> cases y <;> exact hb
    unfold Op.equal Op.maxDepth
    exact eqK_run hr hx hy hb hk 9999
end
end Go.Eng
namespace Go.Eng
section
variable {P : Program} {s : St} {h : H} {w : World} {G : Nat → AV} {e : Env} {a : Act} {U : List (TypeId × TypeId)}
theorem exec_bin {o : Oper} {op : BinOp} {t ty : TypeId} {x y : Operand} (hop : o.op = .binOp op t x y ty) {v : Value} (hg : (eqGuard op t x y (a.eval x) (a.eval y)).run P w = .ok () w) (hb : (binOp op t (a.eval x) (a.eval y)).run P w = .ok v w) :
    (execOp a.eval o).run P w = .ok (.value v) w := by
  simp [execOp, hop, hg, hb]
theorem guard_easy {op : BinOp} {t : TypeId} {x y : Operand} {u v : Value} (h1 : ¬ (u = .nilIface ∧ v = .nilIface)) (h2 : ∀ p q, ¬ (u = .agg p ∧ v = .agg q)) : (eqGuard op t x y u v).run P w = .ok () w := by
  cases op <;> simp [eqGuard] <;> cases u <;> cases v <;> simp_all
theorem bin_int {op : BinOp} {t : TypeId} {k : IntKind} {m n : Int} {v : AV} (hv : evInt op k m n = some v) : ∃ r, (binOp op t (.int k m) (.int k n)).run P w = .ok r w ∧ VR s w v r := by
  cases op <;> simp only [evInt] at hv
  case quo =>
    split at hv
    · cases hv
    · rename_i hn; injection hv with hv; subst hv
      exact ⟨_, by simp [binOp, Op.intDiv, hn]; rfl, by simp only [VR]; rw [wr_eq]⟩
  case rem =>
    split at hv
    · cases hv
    · rename_i hn; injection hv with hv; subst hv
      exact ⟨_, by simp [binOp, Op.intDiv, hn]; rfl, by simp only [VR]⟩
  case add => injection hv with hv; subst hv; exact ⟨_, by simp [binOp, Op.intArith]; rfl, by simp only [VR]; rw [wr_eq]⟩
  case sub => injection hv with hv; subst hv; exact ⟨_, by simp [binOp, Op.intArith]; rfl, by simp only [VR]; rw [wr_eq]⟩
  case mul => injection hv with hv; subst hv; exact ⟨_, by simp [binOp, Op.intArith]; rfl, by simp only [VR]; rw [wr_eq]⟩
  case and => injection hv with hv; subst hv; exact ⟨_, by simp only [binOp, ne_eq, not_true_eq_false, if_false, Op.intBits]; rfl, by simp only [VR]⟩
  case or => injection hv with hv; subst hv; exact ⟨_, by simp only [binOp, ne_eq, not_true_eq_false, if_false, Op.intBits]; rfl, by simp only [VR]⟩
  case xor => injection hv with hv; subst hv; exact ⟨_, by simp only [binOp, ne_eq, not_true_eq_false, if_false, Op.intBits]; rfl, by simp only [VR]⟩
  case andNot => injection hv with hv; subst hv; exact ⟨_, by simp only [binOp, ne_eq, not_true_eq_false, if_false, Op.intBits]; rfl, by simp only [VR]⟩
  case eql => injection hv with hv; subst hv; exact ⟨.bool (m == n), by simp [binOp, Op.intCmp], by simp only [VR]; rw [beq_int]⟩
  case neq => injection hv with hv; subst hv; exact ⟨.bool (m != n), by simp [binOp, Op.intCmp], by simp only [VR]; rw [bne, beq_int]⟩
  case lss => injection hv with hv; subst hv; exact ⟨.bool (decide (m < n)), by simp [binOp, Op.intCmp], by simp only [VR]⟩
  case leq => injection hv with hv; subst hv; exact ⟨.bool (decide (m ≤ n)), by simp [binOp, Op.intCmp], by simp only [VR]⟩
  case gtr => injection hv with hv; subst hv; exact ⟨.bool (decide (m > n)), by simp [binOp, Op.intCmp], by simp only [VR]⟩
  case geq => injection hv with hv; subst hv; exact ⟨.bool (decide (m ≥ n)), by simp [binOp, Op.intCmp], by simp only [VR]⟩
  all_goals cases hv
theorem bin_shift {op : BinOp} {t : TypeId} {k k' : IntKind} {m n : Int} {v : AV} (ho : op = .shl ∨ op = .shr) (hv : evShift op k m n = some v) : ∃ r, (binOp op t (.int k m) (.int k' n)).run P w = .ok r w ∧ VR s w v r := by
  unfold evShift at hv
  split at hv
  · cases hv
  · rename_i hn
    rcases ho with rfl | rfl
    · injection hv with hv; subst hv
      exact ⟨_, by simp [binOp, Op.shift, hn]; rfl, by simp only [VR]⟩
    · injection hv with hv; subst hv
      exact ⟨_, by simp [binOp, Op.shift, hn]; rfl, by simp only [VR]⟩
theorem toList_beq (b1 b2 : ByteArray) : (b1.toList == b2.toList) = decide (b1.data.toList.map UInt8.toNat = b2.data.toList.map UInt8.toNat) := by
  rw [← beq_toListBytes, bytes_beq]
theorem bin_str {op : BinOp} {t : TypeId} {b1 b2 : ByteArray} {v : AV} (hv : evStr op (b1.data.toList.map UInt8.toNat) (b2.data.toList.map UInt8.toNat) = some v) : ∃ r, (binOp op t (.string b1) (.string b2)).run P w = .ok r w ∧ VR s w v r := by
  have hlt : Op.bytesLess b1.toList b2.toList = ltB (b1.data.toList.map UInt8.toNat) (b2.data.toList.map UInt8.toNat) := by
    rw [ByteArray.toList_eq, ByteArray.toList_eq, ltB_bytes]
  have heq := toList_beq b1 b2
  cases op <;> simp only [evStr] at hv
  case add =>
    split at hv
    · rename_i hl
      injection hv with hv; subst hv
      have hsz : b1.size + b2.size ≤ 9223372036854775807 := by
        have h1 := str_len (b := b1) rfl
        have h2 := str_len (b := b2) rfl
        omega
      have hmax : ¬ (((b1.size + b2.size : Nat) : Int) > IntKind.i64.max) := by
        have : IntKind.i64.max = 9223372036854775807 := by decide
        rw [this]; omega
      refine ⟨.string (b1 ++ b2), ?_, ?_⟩
      · simp only [binOp, Op.stringOp]
        rw [if_neg hmax]
        rfl
      · simp only [VR]
        refine ⟨_, rfl, ?_⟩
        have : (b1 ++ b2).data = b1.data ++ b2.data := ByteArray.data_append
        rw [this]
        simp
    · cases hv
  case eql => injection hv with hv; subst hv; exact ⟨.bool (b1.toList == b2.toList), by simp [binOp, Op.stringOp], by simp only [VR]; rw [heq]⟩
  case neq => injection hv with hv; subst hv; exact ⟨.bool (!(b1.toList == b2.toList)), by simp [binOp, Op.stringOp], by simp only [VR]; rw [heq]⟩
  case lss => injection hv with hv; subst hv; exact ⟨.bool (Op.bytesLess b1.toList b2.toList), by simp [binOp, Op.stringOp], by simp only [VR]; rw [hlt]⟩
  case leq => injection hv with hv; subst hv; exact ⟨.bool (Op.bytesLess b1.toList b2.toList || (b1.toList == b2.toList)), by simp [binOp, Op.stringOp], by simp only [VR]; rw [hlt, heq]⟩
  case gtr => injection hv with hv; subst hv; exact ⟨.bool (!(Op.bytesLess b1.toList b2.toList || (b1.toList == b2.toList))), by simp [binOp, Op.stringOp], by simp only [VR]; rw [hlt, heq]⟩
  case geq => injection hv with hv; subst hv; exact ⟨.bool (!Op.bytesLess b1.toList b2.toList), by simp [binOp, Op.stringOp], by simp only [VR]; rw [hlt]⟩
  all_goals cases hv
section
variable {t el : TypeId} {ms : Array (String × TypeId)}
theorem eq_nn (hu : P.underlying t = some (.interface ms)) (d : Nat) : (Op.equalIn (d + 1) t .nilIface .nilIface).run P w = .ok true w := by simp [Op.equalIn, run_underlying hu]
theorem eq_ni (hu : P.underlying t = some (.interface ms)) (d : Nat) (q : TypeId) (z : Value) : (Op.equalIn (d + 1) t .nilIface (.iface q z)).run P w = .ok false w := by simp [Op.equalIn, run_underlying hu]
theorem eq_in (hu : P.underlying t = some (.interface ms)) (d : Nat) (q : TypeId) (z : Value) : (Op.equalIn (d + 1) t (.iface q z) .nilIface).run P w = .ok false w := by simp [Op.equalIn, run_underlying hu]
theorem eq_s0 (hu : P.underlying t = some (.slice el)) (d : Nat) : (Op.equalIn (d + 1) t (.slice none 0 0) (.slice none 0 0)).run P w = .ok true w := by simp [Op.equalIn, run_underlying hu]
theorem eq_s1 (hu : P.underlying t = some (.slice el)) (d n c : Nat) (a : Addr) : (Op.equalIn (d + 1) t (.slice none 0 0) (.slice (some a) n c)).run P w = .ok false w := by simp [Op.equalIn, run_underlying hu]
theorem eq_s2 (hu : P.underlying t = some (.slice el)) (d n c : Nat) (a : Addr) : (Op.equalIn (d + 1) t (.slice (some a) n c) (.slice none 0 0)).run P w = .ok false w := by simp [Op.equalIn, run_underlying hu]
end
def eqVal : Value → Bool
  | .bool _ | .pointer _ | .agg _ | .nilIface | .iface _ _ | .slice .. => true
  | _ => false
theorem bin_eq {op : BinOp} {t : TypeId} {u v : Value} {b : Bool} (ho : op = .eql ∨ op = .neq) (h1 : eqVal u = true)
    (he : (Op.equal t u v).run P w = .ok b w) : (binOp op t u v).run P w = .ok (.bool (if op = .eql then b else !b)) w := by
  rcases ho with rfl | rfl <;> cases u <;> first | (cases h1; done) | skip
  all_goals cases v <;> simp [binOp, he]
theorem q_bin {o : Oper} {op : BinOp} {t ty : TypeId} {x y : Operand} (hop : o.op = .binOp op t x y ty) (hr : Rel s h w) (hG : GlobR s w G) (he : EnvR s w e a) {i : I} (hc : cOp P o.op = some i) {v : AV} (hv : evQ U G i e h = some v) : QOK P s w o a v := by
  rw [hop] at hc
  have hck : ∃ k x' y', cX x = some x' ∧ cX y = some y' ∧ i = .bin op k x' y' ∧ (op = .eql ∨ op = .neq → ckOf P x y t = some k) := by
    cases op <;> simp only [cOp] at hc
    case eql =>
      split at hc
      · rename_i k hk
        simp only [Option.bind_eq_bind, Option.bind_eq_some_iff, Option.some.injEq] at hc
        obtain ⟨x', hx, y', hy, rfl⟩ := hc
        exact ⟨k, x', y', hx, hy, rfl, fun _ => hk⟩
      · cases hc
    case neq =>
      split at hc
      · rename_i k hk
        simp only [Option.bind_eq_bind, Option.bind_eq_some_iff, Option.some.injEq] at hc
        obtain ⟨x', hx, y', hy, rfl⟩ := hc
        exact ⟨k, x', y', hx, hy, rfl, fun _ => hk⟩
      · cases hc
    all_goals
      simp only [Option.bind_eq_bind, Option.bind_eq_some_iff, Option.some.injEq] at hc
      obtain ⟨x', hx, y', hy, rfl⟩ := hc
      exact ⟨_, x', y', hx, hy, rfl, fun h => by rcases h with h | h <;> cases h⟩
  obtain ⟨k, x', y', hx, hy, rfl, hk⟩ := hck
  have hxv := cX_VR hG he hx
  have hyv := cX_VR hG he hy
  simp only [evQ] at hv
  generalize x'.ev G e = X1 at *
  generalize y'.ev G e = Y1 at *
  unfold evBin at hv
  split at hv
  ·
    rename_i kx m ky n
    have h1 := VR_int hxv
    have h2 := VR_int hyv
    have hg : (eqGuard op t x y (a.eval x) (a.eval y)).run P w = .ok () w := by rw [h1, h2]; exact guard_easy (fun hh => by cases hh.1) (fun p q hh => by cases hh.1)
    have key : ∃ r, (binOp op t (a.eval x) (a.eval y)).run P w = .ok r w ∧ VR s w v r := by
      rw [h1, h2]
      split at hv
      · exact bin_shift (.inl rfl) hv
      · exact bin_shift (.inr rfl) hv
      · split at hv
        · rename_i hkk; subst hkk; exact bin_int hv
        · cases hv
    obtain ⟨r, hb, hr'⟩ := key
    exact ⟨r, exec_bin hop hg hb, hr'⟩
  ·
    obtain ⟨b1, h1, h1'⟩ := VR_str hxv
    obtain ⟨b2, h2, h2'⟩ := VR_str hyv
    have hg : (eqGuard op t x y (a.eval x) (a.eval y)).run P w = .ok () w := by rw [h1, h2]; exact guard_easy (fun hh => by cases hh.1) (fun p q hh => by cases hh.1)
    subst h1'; subst h2'
    obtain ⟨r, hb, hr'⟩ := bin_str (P := P) (s := s) (w := w) (t := t) hv
    exact ⟨r, exec_bin hop hg (by rw [h1, h2]; exact hb), hr'⟩
  ·
    rename_i hni hns
    have hq : ∃ b, evBin.evEq h k X1 Y1 = some b ∧ (op = .eql ∨ op = .neq) ∧ v = .bool (if op = .eql then b else !b) := by
      split at hv
      · obtain ⟨b, hb, rfl⟩ := Option.map_eq_some_iff.1 hv; exact ⟨b, hb, .inl rfl, by simp⟩
      · obtain ⟨b, hb, rfl⟩ := Option.map_eq_some_iff.1 hv; exact ⟨b, hb, .inr rfl, by simp⟩
      · cases hv
    obtain ⟨b, hb, ho, rfl⟩ := hq
    have hk := hk ho
    have fin : ∀ (hg : (eqGuard op t x y (a.eval x) (a.eval y)).run P w = .ok () w) (h1 : eqVal (a.eval x) = true),
        (Op.equal t (a.eval x) (a.eval y)).run P w = .ok b w → QOK P s w o a (.bool (if op = .eql then b else !b)) := by
      intro hg h1 heq
      exact ⟨_, exec_bin hop hg (bin_eq ho h1 heq), by simp only [VR]⟩
    unfold evBin.evEq at hb
    split at hb <;> first | (cases hb; done) | skip
    ·
      rename_i p q _
      injection hb with hb
      subst hb
      have h1 := VR_bool hxv
      have h2 := VR_bool hyv
      have hu : kkOf P t = some .bool := by
        unfold ckOf at hk
        split at hk <;> first | (cases hk; done) | skip
        · rename_i hu; simp [kkOf, hu]
        · split at hk <;> cases hk
        · split at hk <;> first | (cases hk; done) | skip
          split at hk <;> cases hk
        · split at hk <;> cases hk
      have heq := eqK_run (P := P) (k := .bool) (b := p == q) hr hxv hyv rfl hu 9999
      refine fin ?_ (by rw [h1]; rfl) heq
      rw [h1, h2]
      exact guard_easy (fun hh => by cases hh.1) (fun p q hh => by cases hh.1)
    ·
      have hp : ∃ el n, P.underlying t = some (.pointer el) ∧ size P el = some (n + 1) := by
        unfold ckOf at hk
        split at hk <;> first | (cases hk; done) | skip
        · rename_i el hu
          split at hk
          · rename_i n hn; exact ⟨el, n, hu, hn⟩
          · cases hk
        · split at hk <;> first | (cases hk; done) | skip
          split at hk <;> cases hk
        · split at hk <;> cases hk
      obtain ⟨el, n, hu, hn⟩ := hp
      have hq := eqP_run (P := P) hr hxv hyv hb hu hn 9999
      have hpx : ∃ p, a.eval x = .pointer p := by
        unfold eqP at hb
        split at hb <;> first | (cases hb; done) | skip
        all_goals first
          | (simp only [VR] at hxv; exact ⟨_, hxv⟩)
          | (obtain ⟨_, _, _, _, hh⟩ := VR_ptr hxv; exact ⟨_, hh⟩)
          | (simp only [VR] at hxv; obtain ⟨_, _, hh, _⟩ := hxv; exact ⟨_, hh⟩)
      obtain ⟨p, hp⟩ := hpx
      refine fin ?_ (by rw [hp]; rfl) hq
      refine guard_easy (fun hh => ?_) (fun _ _ hh => ?_)
      · rw [hp] at hh; cases hh.1
      · rw [hp] at hh; cases hh.1
    ·
      rename_i ks aas bs _
      obtain ⟨us, h1, h1', _⟩ := VR_agg hxv
      obtain ⟨vs, h2, h2', _⟩ := VR_agg hyv
      have hst : ∃ fs, P.underlying t = some (.struct fs) ∧ kksOf P fs.toList 0 = some ks ∧ P.stoodInHeld t = false ∧ P.eqGuardType P.depth t = false := by
        unfold ckOf at hk
        split at hk <;> first | (cases hk; done) | skip
        · split at hk <;> cases hk
        · rename_i fs hu
          split at hk
          · rename_i ks' hks
            split at hk
            · rename_i hcond
              injection hk with hk
              injection hk with hk
              subst hk
              exact ⟨fs, hu, hks, hcond.1, hcond.2.1⟩
            · cases hk
          · cases hk
        · split at hk <;> cases hk
      obtain ⟨fs, hu, hks, hst1, hst2⟩ := hst
      have hfs : P.fieldsOf t = fs := by simp [Program.fieldsOf, hu]
      have heq : (Op.equal t (.agg us) (.agg vs)).run P w = .ok b w := by
        unfold Op.equal Op.maxDepth
        rw [run_equalIn_struct (P := P) w 9999 t us vs (by rw [hfs]; exact hu) hst1, hfs]
        exact eqKs_run hr 9998 us vs fs.toList 0 ks aas bs b hks (by simpa using h1') (by simpa using h2') hb
      refine fin ?_ (by rw [h1]; rfl) (by rw [h1, h2]; exact heq)
      rw [h1, h2]
      exact run_eqGuard_agg (P := P) w op t x y us vs hst2
    all_goals
      first
        | (-- interfaces
           have hu : ∃ ms, P.underlying t = some (.interface ms) ∧ (x = .const .nilIface ∨ y = .const .nilIface) := by
             unfold ckOf at hk
             split at hk <;> first | (cases hk; done) | skip
             · split at hk <;> cases hk
             · split at hk <;> first | (cases hk; done) | skip
               split at hk <;> cases hk
             · rename_i ms hu
               split at hk
               · exact ⟨ms, hu, .inl rfl⟩
               · exact ⟨ms, hu, .inr rfl⟩
               · cases hk
           obtain ⟨ms, hu, hxy⟩ := hu
           injection hb with hb
           subst hb
           first
             | (have h1 : a.eval x = .nilIface := by simpa only [VR] using hxv
                have h2 : a.eval y = .nilIface := by simpa only [VR] using hyv
                refine fin ?_ (by rw [h1]; rfl) (by rw [h1, h2]; first | exact eq_nn hu 9999 | exact eq_ni hu 9999 _ _ | exact eq_in hu 9999 _ _ | exact eq_s0 hu 9999 | exact eq_s1 hu 9999 _ _ _ | exact eq_s2 hu 9999 _ _ _)
                rw [h1, h2]
                rcases hxy with rfl | rfl <;> cases op <;> simp [eqGuard])
             | (have h1 : a.eval x = .nilIface := by simpa only [VR] using hxv
                have h2 : ∃ tt z, a.eval y = .iface tt z := by simp only [VR] at hyv; obtain ⟨z, hz, _⟩ := hyv; exact ⟨_, z, hz⟩
                obtain ⟨tt, z, h2⟩ := h2
                refine fin ?_ (by rw [h1]; rfl) (by rw [h1, h2]; first | exact eq_nn hu 9999 | exact eq_ni hu 9999 _ _ | exact eq_in hu 9999 _ _ | exact eq_s0 hu 9999 | exact eq_s1 hu 9999 _ _ _ | exact eq_s2 hu 9999 _ _ _)
                rw [h1, h2]
                exact guard_easy (fun hh => by cases hh.2) (fun p q hh => by cases hh.1))
             | (have h2 : a.eval y = .nilIface := by simpa only [VR] using hyv
                have h1 : ∃ tt z, a.eval x = .iface tt z := by simp only [VR] at hxv; obtain ⟨z, hz, _⟩ := hxv; exact ⟨_, z, hz⟩
                obtain ⟨tt, z, h1⟩ := h1
                refine fin ?_ (by rw [h1]; rfl) (by rw [h1, h2]; first | exact eq_nn hu 9999 | exact eq_ni hu 9999 _ _ | exact eq_in hu 9999 _ _ | exact eq_s0 hu 9999 | exact eq_s1 hu 9999 _ _ _ | exact eq_s2 hu 9999 _ _ _)
                rw [h1, h2]
                exact guard_easy (fun hh => by cases hh.1) (fun p q hh => by cases hh.1)))
        | (-- slices against nil
           have hu : ∃ el, P.underlying t = some (.slice el) := by
             unfold ckOf at hk
             split at hk <;> first | (cases hk; done) | skip
             · split at hk <;> cases hk
             · split at hk <;> first | (cases hk; done) | skip
               split at hk <;> cases hk
             · split at hk <;> cases hk
             · rename_i el hu; exact ⟨el, hu⟩
           obtain ⟨el, hu⟩ := hu
           injection hb with hb
           subst hb
           have shp : ∀ {A : AV} {v : Value}, VR s w A v → A = .nils → v = .slice none 0 0 := by
             intro A v hA e; subst e; simpa only [VR] using hA
           first
             | (have h1 := shp hxv rfl
                have h2 := shp hyv rfl
                refine fin ?_ (by rw [h1]; rfl) (by rw [h1, h2]; first | exact eq_nn hu 9999 | exact eq_ni hu 9999 _ _ | exact eq_in hu 9999 _ _ | exact eq_s0 hu 9999 | exact eq_s1 hu 9999 _ _ _ | exact eq_s2 hu 9999 _ _ _)
                rw [h1, h2]
                exact guard_easy (fun hh => by cases hh.1) (fun p q hh => by cases hh.1))
             | (have h1 := shp hxv rfl
                obtain ⟨_, _, _, _, _, _, h2, _⟩ := VR_sl hyv
                refine fin ?_ (by rw [h1]; rfl) (by rw [h1, h2]; first | exact eq_nn hu 9999 | exact eq_ni hu 9999 _ _ | exact eq_in hu 9999 _ _ | exact eq_s0 hu 9999 | exact eq_s1 hu 9999 _ _ _ | exact eq_s2 hu 9999 _ _ _)
                rw [h1, h2]
                exact guard_easy (fun hh => by cases hh.1) (fun p q hh => by cases hh.1))
             | (have h2 := shp hyv rfl
                obtain ⟨_, _, _, _, _, _, h1, _⟩ := VR_sl hxv
                refine fin ?_ (by rw [h1]; rfl) (by rw [h1, h2]; first | exact eq_nn hu 9999 | exact eq_ni hu 9999 _ _ | exact eq_in hu 9999 _ _ | exact eq_s0 hu 9999 | exact eq_s1 hu 9999 _ _ _ | exact eq_s2 hu 9999 _ _ _)
                rw [h1, h2]
                exact guard_easy (fun hh => by cases hh.1) (fun p q hh => by cases hh.1)))
end
end Go.Eng
