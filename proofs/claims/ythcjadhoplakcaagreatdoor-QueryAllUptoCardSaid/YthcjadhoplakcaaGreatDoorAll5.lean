/- The law QueryAll of package grommetlaw24 answers true and turns no argument, for all arguments that are together of bulk at most 1048576; condition: the listed package variables start as the program's text lays them. (part 5.) -/
import Derived.Test.YthcjadhoplakcaaGreatDoorAll4
import Derived.Great.BuildSlice
import Derived.Laws.MakeOwn
set_option linter.unusedSimpArgs false
set_option linter.unusedVariables false
namespace Go.Eng
section
variable {P : Program} {s : St} {h : H} {w : World} {G : Nat → AV} {e : Env} {a : Act} {U : List (TypeId × TypeId)}
def EOK (P : Program) (s : St) (w : World) (o : Oper) (a : Act) (v : AV) (h' : H) : Prop :=
  ∃ r nx w' s', (execOp a.eval o).run P w = .ok nx w' ∧ (nx = .value r ∨ (nx = .skip ∧ r = undef)) ∧ Rel s' h' w' ∧ Step s w s' w' ∧ VR s' w' v r
theorem alloc_size (w : World) (o : Obj) : (w.alloc o).heap.size = w.heap.size + 1 := by show (w.heap.push o).size = _; simp
theorem keep_alloc (s : St) (w : World) (o : Obj) : Keep s w (w.alloc o) := ⟨rfl, rfl, rfl, by rw [alloc_size]; omega, fun b hb _ => heap_alloc_old w o b hb⟩
theorem alloc_cells (hr : Rel s h w) {cs : List AV} {c : Array Value} {t : TypeId} {fz : Option Nat} (hv : VRs s w cs (c.toList.take cs.length)) (hc : cs.length ≤ c.size) (hl : ∀ x ∈ cs, x.leaf = true) (lo hi : Nat) (hfz : ∀ z, fz = some z → hi ≤ z) :
    Rel (s.add h.next (w.heap.size, 0, c.size)) (h.new (.cells cs t fz)) (w.alloc (.cells c t (lo, hi))) ∧ Step s w (s.add h.next (w.heap.size, 0, c.size)) (w.alloc (.cells c t (lo, hi))) := by
  refine Rel.new hr _ (Nat.le_refl _) (by rw [alloc_size]; omega) (keep_alloc _ _ _) (fun k hk => heap_alloc_old w _ k hk) fun st => ?_
  refine ⟨c, lo, hi, heap_alloc_new w _, fun z hz => by have := hfz z hz; omega, by omega, hc, hl, ?_, fun _ _ => rfl⟩
  have := VRs.mono st hr.apart hv
  simpa using this
theorem add_self (s : St) (l : Nat) (x : Nat × Nat × Nat) : (s.add l x).ρ l = some x := by simp [St.add]
theorem VR_new_ptr {s' : St} {w' : World} {l b m : Nat} (hl : s'.ρ l = some (b, 0, m)) : VR s' w' (.ptr l 0) (.pointer (some ⟨b, 0, none⟩)) := by
  simp only [VR]; exact ⟨b, 0, m, hl, rfl⟩
theorem VRs_self_take {cs : List AV} {rs : List Value} (h : VRs s w cs rs) : VRs s w cs (rs.take cs.length) := by
  rw [← VRs_length h, List.take_length]; exact h
theorem e_new {o : Oper} {t : TypeId} (hop : o.op = .alloc t) (hr : Rel s h w) {i : I} (hc : cOp P o.op = some i) {v : AV} {h' : H} (hv : evE U G i e h = some (v, h')) : EOK P s w o a v h' := by
  rw [hop] at hc
  simp only [cOp] at hc
  split at hc
  · rename_i z hz
    injection hc with hc; subst hc
    obtain ⟨inf, zv, h1, h2, h3, h4, h5⟩ := zeroOf_VR (s := s) (w := w) hz
    simp only [evE] at hv
    split at hv
    · injection hv with hv
      injection hv with hv1 hv2
      subst hv1; subst hv2
      have hlen := VRs_length h4
      simp at hlen
      obtain ⟨g1, g2⟩ := alloc_cells (t := t) (fz := some 0) hr (VRs_self_take h4) (by omega) h5 0 0 (fun z hz => by omega)
      refine ⟨.pointer (some ⟨w.heap.size, 0, none⟩), _, _, _, ?_, .inl rfl, g1, g2, VR_new_ptr (add_self _ _ _)⟩
      simp [execOp, hop, Instr.alloc, zeroValue, typeInfo, h1, h2, newVar, newRow]
    · cases hv
  · cases hc
theorem e_box {o : Oper} {t : TypeId} {x : Operand} (hop : o.op = .box t x) (hr : Rel s h w) (hG : GlobR s w G) (he : EnvR s w e a) {i : I} (hc : cOp P o.op = some i) {v : AV} {h' : H} (hv : evE U G i e h = some (v, h')) : EOK P s w o a v h' := by
  rw [hop] at hc
  simp only [cOp] at hc
  split at hc
  · rename_i n hn
    obtain ⟨y, hy, rfl⟩ := do_some hc
    have hx := cX_VR hG he hy
    simp only [evE] at hv
    split at hv
    · rename_i hcond
      simp only [Bool.and_eq_true, beq_iff_eq, List.all_eq_true] at hcond
      injection hv with hv
      injection hv with hv1 hv2
      subst hv1; subst hv2
      obtain ⟨h1, h2⟩ := VR_cells hx hcond.1.1
      have hlen := VRs_length h1
      simp at hlen
      obtain ⟨g1, g2⟩ := alloc_cells (t := t) (fz := some 0) hr (VRs_self_take h1) (by omega) h2 0 0 (fun z hz => by omega)
      refine ⟨.pointer (some ⟨w.heap.size, 0, none⟩), _, _, _, ?_, .inl rfl, g1, g2, VR_new_ptr (add_self _ _ _)⟩
      simp [execOp, hop, Instr.box, newVar, newRow]
    · cases hv
  · cases hc
theorem e_mkM {o : Oper} {t : TypeId} {r : Option Operand} (hop : o.op = .makeMap t r) (hr : Rel s h w) {i : I} (hc : cOp P o.op = some i) {v : AV} {h' : H} (hv : evE U G i e h = some (v, h')) : EOK P s w o a v h' := by
  rw [hop] at hc
  cases r <;> simp only [cOp] at hc <;> first | (cases hc; done) | skip
  split at hc <;> first | (cases hc; done) | skip
  injection hc with hc; subst hc
  simp only [evE] at hv
  injection hv with hv
  injection hv with hv1 hv2
  subst hv1; subst hv2
  have g := Rel.new (b := w.heap.size) (d := 0) (m := 0) (w' := w.alloc (.map #[] 0)) hr (.map []) (Nat.le_refl _) (by rw [alloc_size]; omega) (keep_alloc _ _ _) (fun k hk => heap_alloc_old w _ k hk) fun st => ⟨#[], 0, heap_alloc_new w _, by simp [VRs], by simp [VRs]⟩
  refine ⟨.map (some w.heap.size), _, _, _, ?_, .inl rfl, g.1, g.2, ?_⟩
  · simp [execOp, hop, Instr.makeMap, newObj, Sem.run]
  · simp only [VR]; exact ⟨_, _, _, add_self _ _ _, rfl⟩
theorem replicate_flatten_length (n : Nat) (z : List AV) : ((List.replicate n z).flatten).length = n * z.length := by
  induction n with
  | zero => simp
  | succ n ih => simp [List.replicate_succ, ih, Nat.add_mul]; omega
theorem VRs_replicate {z : List AV} {zs : List Value} (h : VRs s w z zs) (n : Nat) : VRs s w (List.replicate n z).flatten (List.replicate n zs).flatten := by
  induction n with
  | zero => simp [VRs]
  | succ n ih => simp only [List.replicate_succ, List.flatten_cons]; exact VRs_append h ih
theorem zeros_toList (z : Array Value) (n : Nat) : ((Array.range (n * z.size)).map (z[· % z.size]!)).toList = (List.replicate n z.toList).flatten := by
  by_cases hz : z.size = 0
  · have : z = #[] := by simpa using hz
    subst this
    simp
  · apply List.ext_getElem?
    intro k
    simp only [Array.toList_map, Array.toList_range, List.getElem?_map]
    by_cases hk : k < n * z.size
    · rw [List.getElem?_range hk]
      have hmod : k % z.size < z.size := Nat.mod_lt _ (by omega)
      simp only [Option.map_some]
      rw [getElem!_pos z (k % z.size) hmod]
      have aux : ∀ (n k : Nat) (l : List Value), 0 < l.length → k < n * l.length → ((List.replicate n l).flatten)[k]? = l[k % l.length]? := by
        intro n
        induction n with
        | zero => intro k l _ h; simp at h
        | succ n ih =>
          intro k l hl h
          simp only [List.replicate_succ, List.flatten_cons]
          by_cases hkl : k < l.length
          · rw [List.getElem?_append_left hkl, Nat.mod_eq_of_lt hkl]
          · rw [List.getElem?_append_right (by omega), ih (k - l.length) l hl (by rw [Nat.add_mul] at h; omega)]
            congr 1
            rw [← Nat.mod_eq_sub_mod (by omega)]
      rw [aux n k z.toList (by simp; omega) (by simpa using hk)]
      simp [hmod]
    · rw [List.getElem?_eq_none (by simp; omega), List.getElem?_eq_none]
      · rfl
      · have : ((List.replicate n z.toList).flatten).length = n * z.size := by simp
        omega
theorem buildSlice_run (w : World) {t el : TypeId} {n : Nat} {parts : Array (Nat × Value)} {us : Array Value} {inf : TypeInfo} {zv : Value} (hu : P.underlying t = some (.slice el)) (h1 : P.info? el = some inf) (h2 : inf.zero = some zv) (hsm : n * inf.size ≤ 2 ^ 24)
    (hf : Instr.fill (fun i => some (i * inf.size, inf.size)) ((Array.range (n * inf.size)).map (zv.cells[· % zv.cells.size]!)) parts.toList = some us) :
    (Instr.buildSlice t n parts).run P w = .ok (.slice (some ⟨w.heap.size, 0, none⟩) n n) (w.alloc (.cells us el)) := by
  by_cases hn0 : n * inf.size = 0
  · rw [hn0] at hf
    have e0 : ∀ f : Nat → Value, (Array.range 0).map f = #[] := fun f => by rw [Array.range_zero']; simp
    rw [e0] at hf
    have hs : (sizeOf el).run P w = .ok inf.size w := by simp [sizeOf, typeInfo, h1]
    simp [Instr.buildSlice, run_underlying hu, hs, hn0, e0, hf, newRow]
  · exact run_buildSlice (P := P) w t el n parts us inf zv hu h1 h2 (by omega) hn0 hf
theorem cPartsL_PR (hG : GlobR s w G) (he : EnvR s w e a) (k : Nat) : ∀ (ps : List (Nat × Operand)) (qs : List (Nat × X)), cPartsL ps = some qs → PR s w (fun i => some (i * k, k)) (evPartsL G e k qs) (ps.map fun (i, x) => (i, a.eval x))
  | [], qs, hc => by simp only [cPartsL] at hc; injection hc with hc; subst hc; simp [evPartsL, PR]
  | (i, x) :: ps, qs, hc => by
    simp only [cPartsL] at hc
    split at hc
    · rename_i y ys hy hys
      injection hc with hc; subst hc
      simp only [evPartsL, PR, List.map_cons]
      exact ⟨i, _, _, rfl, rfl, cX_VR hG he hy, cPartsL_PR hG he k ps ys hys⟩
    · cases hc
theorem fillC_length : ∀ (ps : List (Nat × Nat × AV)) (zero r : List AV), fillC zero ps = some r → r.length = zero.length
  | [], zero, r, hf => by simp only [fillC] at hf; injection hf with hf; subst hf; rfl
  | (off, n, v) :: ps, zero, r, hf => by
    simp only [fillC] at hf
    split at hf
    · rename_i hc
      simp only [Bool.and_eq_true, beq_iff_eq, decide_eq_true_eq] at hc
      have := fillC_length ps _ r hf
      rw [this]
      simp
      omega
    · cases hf
theorem e_bsl {o : Oper} {t : TypeId} {n : Nat} {ps : Array (Nat × Operand)} (hop : o.op = .buildSlice t n ps) (hr : Rel s h w) (hG : GlobR s w G) (he : EnvR s w e a) {i : I} (hc : cOp P o.op = some i) {v : AV} {h' : H} (hv : evE U G i e h = some (v, h')) : EOK P s w o a v h' := by
  rw [hop] at hc
  simp only [cOp] at hc
  split at hc
  · rename_i el hu
    split at hc
    · rename_i k z hk hz
      split at hc
      · rename_i hbig
        obtain ⟨qs, hqs, rfl⟩ := do_some hc
        obtain ⟨inf, zv, h1, h2, h3, h4, h5⟩ := zeroOf_VR (s := s) (w := w) hz
        have hsz : inf.size = k + 1 := by simpa [size, h1] using hk
        have hzl := VRs_length h4
        simp at hzl
        simp only [evE] at hv
        split at hv
        · rename_i cs hfill
          split at hv
          · rename_i hcond
            injection hv with hv
            injection hv with hv1 hv2
            subst hv1; subst hv2
            have hz0 : (Array.range (n * inf.size)).map (zv.cells[· % zv.cells.size]!) = (Array.range (n * zv.cells.size)).map (zv.cells[· % zv.cells.size]!) := by rw [h3]
            have hzr := VRs_replicate h4 n
            rw [← zeros_toList zv.cells n] at hzr
            have hzleaf : ∀ c ∈ (List.replicate n z).flatten, c.leaf = true := by
              intro c hcc
              simp only [List.mem_flatten, List.mem_replicate] at hcc
              obtain ⟨l, ⟨_, rfl⟩, hcc⟩ := hcc
              exact h5 c hcc
            obtain ⟨us, f1, f2, f3⟩ := fillC_sound (s := s) (w := w) (fun i => some (i * (k + 1), k + 1)) _ _ _ cs _ hfill (cPartsL_PR hG he (k + 1) _ _ hqs) hzr hzleaf
            have hus := VRs_length f2
            simp at hus
            have hcl : cs.length = n * (k + 1) := by
              rw [fillC_length _ _ _ hfill, replicate_flatten_length]
              congr 1; omega
            have hrun := buildSlice_run (P := P) w (parts := ps.map fun (i, x) => (i, a.eval x)) (us := us) (n := n) hu h1 h2 (by rw [hsz]; exact hbig) (by rw [hz0, hsz, ← f1]; congr 1; simp)
            clear f1 hz0 hzr hzleaf hfill hbig
            generalize hparts : (ps.map fun (i, x) => (i, a.eval x)) = parts at hrun
            obtain ⟨g1, g2⟩ := alloc_cells (t := el) (fz := some 0) hr (VRs_self_take f2) (by omega) f3 0 0 (fun z hz => by omega)
            refine ⟨.slice (some ⟨w.heap.size, 0, none⟩) n n, _, _, _, ?_, .inl rfl, g1, g2, ?_⟩
            · simp only [execOp, hop, hparts, Sem.run_bind, hrun, Result.andThen_ok, Sem.run_pure]
            · simp only [VR]
              refine ⟨_, _, _, _, _, add_self _ _ _, rfl, Nat.le_refl _, .inl ⟨rfl, Nat.le_refl _, fun _ => rfl, ?_⟩⟩
              omega
          · cases hv
        · cases hv
      · cases hc
    · cases hc
  · cases hc
end
end Go.Eng
namespace Go.Eng
section
variable {P : Program} {s : St} {h : H} {w : World} {G : Nat → AV} {e : Env} {a : Act} {U : List (TypeId × TypeId)}
theorem row_over (L us : List Value) (d off k : Nat) (hk : off + us.length ≤ k) (hL : d + k ≤ L.length) :
    ((L.take (d + off) ++ us ++ L.drop (d + off + us.length)).drop d).take k = ((L.drop d).take k).take off ++ us ++ ((L.drop d).take k).drop (off + us.length) := by
  apply List.ext_getElem?
  intro j
  by_cases hj : j < k
  · rw [List.getElem?_take, if_pos hj, List.getElem?_drop]
    by_cases h1 : j < off
    · rw [List.append_assoc, List.getElem?_append_left (by simp; omega), List.getElem?_take, if_pos (by omega)]
      rw [List.append_assoc, List.getElem?_append_left (by simp; omega), List.getElem?_take, if_pos h1, List.getElem?_take, if_pos hj, List.getElem?_drop]
    · by_cases h2 : j < off + us.length
      · rw [List.append_assoc, List.getElem?_append_right (by simp; omega)]
        have e1 : d + j - (L.take (d + off)).length = j - off := by simp; omega
        rw [e1, List.getElem?_append_left (by omega)]
        rw [List.append_assoc, List.getElem?_append_right (by simp; omega)]
        have e2 : j - (((L.drop d).take k).take off).length = j - off := by simp; omega
        rw [e2, List.getElem?_append_left (by omega)]
      · rw [List.getElem?_append_right (by simp; omega)]
        have e1 : d + j - (L.take (d + off) ++ us).length = j - (off + us.length) := by simp; omega
        rw [e1, List.getElem?_drop]
        rw [List.getElem?_append_right (by simp; omega)]
        have e2 : j - (((L.drop d).take k).take off ++ us).length = j - (off + us.length) := by simp; omega
        rw [e2, List.getElem?_drop, List.getElem?_take, if_pos (by omega), List.getElem?_drop]
        congr 1
        omega
  · rw [List.getElem?_eq_none (by simp; omega), List.getElem?_eq_none (by simp; omega)]
theorem setRow_size (w : World) (g : Nat) (cs : Array Value) : (w.setRow g cs).heap.size = w.heap.size := by simp [World.setRow]
theorem keep_setRow (s : St) (w : World) {l b d m : Nat} (hρ : s.ρ l = some (b, d, m)) (cs : Array Value) : Keep s w (w.setRow b cs) :=
  ⟨rfl, rfl, rfl, by rw [setRow_size]; exact Nat.le_refl _, fun k _ hk => setRow_other w b k cs (fun e => hk l d m (by rw [e]; exact hρ))⟩
theorem write_cells (hr : Rel s h w) {l b d m : Nat} {cs : List AV} {t : TypeId} {z : Nat} (hρ : s.ρ l = some (b, d, m)) (hg : h.get l = some (.cells cs t (some z))) {vs : List AV} {us : List Value} (hv : VRs s w vs us) (hl : ∀ x ∈ vs, x.leaf = true)
    {off : Nat} (ho : off + vs.length ≤ cs.length) (hz : z ≤ off) :
    ∃ w', (storeCells ⟨b, d + off, none⟩ us).run P w = .ok () w' ∧ Rel s (h.set l (.cells (over cs off vs) t (some z))) w' ∧ Step s w s w' := by
  obtain ⟨c, lo, hi, g1, g2, g3, g4, g5, g6, g7⟩ := hr.obj l b d m _ hρ hg
  have hul := VRs_length hv
  have hone : ∀ v ∈ us, v.oneCell' = true := by
    intro v hvm
    obtain ⟨i, hi⟩ := List.mem_iff_getElem?.1 hvm
    obtain ⟨x, hx, hxv⟩ := VRs_get' hv hi
    exact VR_oneCell hxv (hl x (List.mem_of_getElem? hx))
  have hst := run_storeCells_atF P b (d + off) t (lo, hi) us 0 c w g1 (by have := g2 z rfl; simp only; omega) (by simp; omega) hone
  simp only [Nat.add_zero] at hst
  have hkeep := keep_setRow s w hρ (c.toList.take (d + off) ++ us ++ c.toList.drop (d + off + us.length)).toArray
  have hrel := Rel.turn (o := .cells (over cs off vs) t (some z)) hr hρ (by rw [hg]; rfl) hkeep (setRow_size _ _ _) (fun k hk => setRow_other w b k _ hk) (fun st => by
    refine ⟨_, lo, hi, setRow_heap w b c _ t (lo, hi) g1, g2, ?_, ?_, ?_, ?_, g7⟩
    · simp; omega
    · unfold over; simp; omega
    · intro x hx
      unfold over at hx
      simp only [List.mem_append] at hx
      rcases hx with (hx | hx) | hx
      · exact g5 x (List.mem_of_mem_take hx)
      · exact hl x hx
      · exact g5 x (List.mem_of_mem_drop hx)
    · have hlen : (over cs off vs).length = cs.length := by unfold over; simp; omega
      rw [hlen]
      have hro := row_over c.toList us d off cs.length (by omega) (by simp; omega)
      rw [hro]
      have := VRs_over (off := off) (VRs.mono st hr.apart g6) (VRs.mono st hr.apart hv) (by omega)
      exact this)
  exact ⟨_, hst, hrel.1, hrel.2⟩
theorem putH_some : ∀ {cs vs r : List AV}, putH cs vs = some r → vs.length ≤ cs.length ∧ r = vs ++ cs.drop vs.length
  | cs, [], r, h => by
    simp only [putH] at h
    injection h with h; subst h
    simp
  | [], v :: vs, r, h => by simp [putH] at h
  | c :: cs, v :: vs, r, h => by
    simp only [putH] at h
    split at h
    · rename_i r' hr
      injection h with h; subst h
      obtain ⟨h1, h2⟩ := putH_some hr
      subst h2
      simp
      exact h1
    · cases h
theorem putC_some {vs : List AV} : ∀ {cs : List AV} {n : Nat} {r : List AV}, putC vs cs n = some r → n + vs.length ≤ cs.length ∧ r = over cs n vs
  | cs, 0, r, h => by
    simp only [putC] at h
    obtain ⟨h1, h2⟩ := putH_some h
    exact ⟨by omega, by rw [h2]; simp [over]⟩
  | [], n + 1, r, h => by simp [putC] at h
  | c :: cs, n + 1, r, h => by
    simp only [putC] at h
    split at h
    · rename_i r' hr
      injection h with h; subst h
      obtain ⟨h1, h2⟩ := putC_some hr
      subst h2
      refine ⟨by simp; omega, ?_⟩
      simp only [over, List.take_succ_cons, List.cons_append]
      rw [show n + 1 + vs.length = (n + vs.length) + 1 by omega, List.drop_succ_cons]
    · cases h
theorem e_st {o : Oper} {t : TypeId} {x y : Operand} (hop : o.op = .store t x y) (hr : Rel s h w) (hG : GlobR s w G) (he : EnvR s w e a) {i : I} (hc : cOp P o.op = some i) {v : AV} {h' : H} (hv : evE U G i e h = some (v, h')) : EOK P s w o a v h' := by
  rw [hop] at hc
  simp only [cOp] at hc
  split at hc
  · rename_i n hn
    simp only [Option.bind_eq_bind, Option.bind_eq_some_iff, Option.some.injEq] at hc
    obtain ⟨x', hx, y', hy, rfl⟩ := hc
    have hxv := cX_VR hG he hx
    have hyv := cX_VR hG he hy
    simp only [evE] at hv
    split at hv
    · rename_i l off hl
      rw [hl] at hxv
      split at hv
      · rename_i cs ty fz hget
        split at hv
        · rename_i hcond
          simp only [Bool.and_eq_true, beq_iff_eq, List.all_eq_true] at hcond
          obtain ⟨⟨⟨c1, c2⟩, c3⟩, c5⟩ := hcond
          have c5 := Nat.le_of_ble_eq_true c5
          split at hv <;> first | (cases hv; done) | skip
          rename_i cs' hput
          obtain ⟨c4, rfl⟩ := putC_some hput
          injection hv with hv
          injection hv with hv1 hv2
          subst hv1; subst hv2
          obtain ⟨b, d, m, h1, h2⟩ := VR_ptr hxv
          obtain ⟨k1, k2⟩ := VR_cells hyv c1
          have hlen := VRs_length k1
          simp at hlen
          obtain ⟨w', g1, g2, g3⟩ := write_cells (P := P) hr h1 hget k1 k2 (off := off) (by omega) c5
          refine ⟨undef, .skip, w', s, ?_, .inr ⟨rfl, rfl⟩, g2, g3, by simp only [VR]⟩
          have hsz : (a.eval y).cells.size = n := by omega
          simp [execOp, hop, Instr.storeAt, h2, Instr.sureAddr, storeVar, sizeOf_run hn, hsz, g1]
        · cases hv
      · cases hv
    · cases hv
  · cases hc
theorem setK_keys (k v : AV) : ∀ (es : List (AV × AV)) (i : Nat), (setK k v es i).map (·.1) = (es.map (·.1)).set i k
  | [], _ => rfl
  | (_, _) :: es, 0 => rfl
  | x :: es, n + 1 => by simp [setK, setK_keys k v es n]
theorem setK_vals (k v : AV) : ∀ (es : List (AV × AV)) (i : Nat), (setK k v es i).map (·.2) = (es.map (·.2)).set i v
  | [], _ => rfl
  | (_, _) :: es, 0 => rfl
  | x :: es, n + 1 => by simp [setK, setK_vals k v es n]
theorem VRs_set {cs : List AV} {rs : List Value} (h : VRs s w cs rs) (i : Nat) {x : AV} {u : Value} (hx : VR s w x u) : VRs s w (cs.set i x) (rs.set i u) := by
  have hl := VRs_length h
  refine VRs_of (by simp [hl]) fun j c r hc hr => ?_
  rw [List.getElem?_set] at hc hr
  by_cases hij : i = j
  · subst hij
    simp only [if_true] at hc hr
    split at hc
    · rename_i hlt
      rw [if_pos (by omega)] at hr
      injection hc with hc; injection hr with hr
      subst hc; subst hr; exact hx
    · cases hc
  · rw [if_neg hij] at hc hr
    obtain ⟨r', hr', hv⟩ := VRs_get h hc
    rw [hr] at hr'; injection hr' with e; exact e ▸ hv
theorem VRs_snoc {cs : List AV} {rs : List Value} (h : VRs s w cs rs) {x : AV} {u : Value} (hx : VR s w x u) : VRs s w (cs ++ [x]) (rs ++ [u]) :=
  VRs_append h (by simp only [VRs]; exact ⟨u, [], rfl, hx, rfl⟩)
theorem turn_map (hr : Rel s h w) {l b d m : Nat} {es es' : List (AV × AV)} (hρ : s.ρ l = some (b, d, m)) (hg : h.get l = some (.map es)) {en' : Array MapEntry} {clock' : Nat}
    (h1 : VRs s w (es'.map (·.1)) (en'.toList.map (·.key))) (h2 : VRs s w (es'.map (·.2)) (en'.toList.map (·.val))) :
    Rel s (h.set l (.map es')) { w with heap := w.heap.setIfInBounds b (.map en' clock') } ∧ Step s w s { w with heap := w.heap.setIfInBounds b (.map en' clock') } := by
  have hb := ltF hr hρ
  refine Rel.turn hr (AObj.map es') hρ (by rw [hg]; rfl) ⟨rfl, rfl, rfl, by simp, fun k _ hk => ?_⟩ (by simp) (fun k hk => ?_) (fun st => ?_)
  · show (w.heap.setIfInBounds b _)[k]? = _
    rw [Array.getElem?_setIfInBounds_ne (fun e => hk l d m (by rw [← e]; exact hρ))]
  · show (w.heap.setIfInBounds b _)[k]? = _
    rw [Array.getElem?_setIfInBounds_ne (Ne.symm hk)]
  · refine ⟨en', clock', ?_, VRs.mono st hr.apart h1, VRs.mono st hr.apart h2⟩
    show (w.heap.setIfInBounds b _)[b]? = _
    rw [Array.getElem?_setIfInBounds_self_of_lt hb]
theorem sameBits_K {k : KK} {x y : AV} {u v : Value} (hx : VR s w x u) (hy : VR s w y v) (hb : eqK h k x y = some true) (n : Nat) : Instr.sameBits (n + 1) v u = true := by
  cases k with
  | int =>
    cases x <;> cases y <;> simp only [eqK] at hb <;> first | (cases hb; done) | skip
    split at hb
    · rename_i hk
      subst hk
      have h1 := VR_int hx
      have h2 := VR_int hy
      subst h1; subst h2
      simp at hb
      simp [Instr.sameBits, hb]
    · cases hb
  | str =>
    cases x <;> cases y <;> simp only [eqK] at hb <;> first | (cases hb; done) | skip
    obtain ⟨b1, rfl, rfl⟩ := VR_str hx
    obtain ⟨b2, rfl, rfl⟩ := VR_str hy
    simp at hb
    have : b1 = b2 := bytes_ext (by simpa using hb)
    subst this
    have e : (b1 == b1) = true := by rw [bytes_beq]; simp
    simp [Instr.sameBits, e]
  | bool =>
    cases x <;> cases y <;> simp only [eqK] at hb <;> first | (cases hb; done) | skip
    have h1 := VR_bool hx
    have h2 := VR_bool hy
    subst h1; subst h2
    simp at hb
    simp [Instr.sameBits, hb]
  | ptr =>
    have hb2 : eqP h x y = some true := by cases x <;> cases y <;> exact hb
    clear hb
    rename eqP h x y = some true => hb
    unfold eqP at hb
    split at hb <;> first | (cases hb; done) | skip
    · simp only [VR] at hx hy; subst hx; subst hy; simp [Instr.sameBits]
    · obtain ⟨b1, d1, m1, h1, rfl⟩ := VR_ptr hx
      obtain ⟨b2, d2, m2, h2, rfl⟩ := VR_ptr hy
      split at hb
      · rename_i hl
        subst hl
        rw [h1] at h2
        injection h2 with h2
        injection h2 with e1 e2
        injection e2 with e2 e3
        injection hb with hb
        have hb := of_decide_eq_true hb
        subst e1; subst e2; subst hb
        simp [Instr.sameBits]
      · split at hb <;> cases hb
theorem sameBits_Ks (n : Nat) : ∀ {ks : List KK} {aas bs : List AV} {us vs : List Value}, VRs s w aas us → VRs s w bs vs → eqKs h ks aas bs = some true → us.length = vs.length ∧ ((vs.zip us).all fun (x, y) => Instr.sameBits (n + 1) x y) = true
  | [], aas, bs, us, vs, h1, h2, hb => by
    cases aas <;> cases bs <;> simp only [eqKs] at hb <;> first | (cases hb; done) | skip
    simp only [VRs] at h1 h2; subst h1; subst h2; simp
  | k :: ks, aas, bs, us, vs, h1, h2, hb => by
    cases aas with
    | nil => simp only [eqKs] at hb; cases hb
    | cons x aas =>
      cases bs with
      | nil => simp only [eqKs] at hb; cases hb
      | cons y bs =>
        simp only [eqKs] at hb
        simp only [VRs] at h1 h2
        obtain ⟨u, us', rfl, hu, h1⟩ := h1
        obtain ⟨v, vs', rfl, hv, h2⟩ := h2
        split at hb
        · rename_i he
          obtain ⟨i1, i2⟩ := sameBits_Ks n h1 h2 hb
          have := sameBits_K hu hv he n
          simp [i1, this]
          simpa using i2
        · split at hb <;> cases hb
        · cases hb
theorem sameBits_key {q : KT} {x y : AV} {u v : Value} (hx : VR s w x u) (hy : VR s w y v) (hb : eqKey h q x y = some true) (n : Nat) : Instr.sameBits (n + 1 + 1) v u = true := by
  cases q with
  | one k =>
    have hb : eqK h k x y = some true := by cases x <;> cases y <;> exact hb
    exact sameBits_K hx hy hb (n + 1)
  | many ks =>
    cases x <;> cases y <;> simp only [eqKey] at hb <;> first | (cases hb; done) | skip
    obtain ⟨us, rfl, h1, _⟩ := VR_agg hx
    obtain ⟨vs, rfl, h2, _⟩ := VR_agg hy
    obtain ⟨i1, i2⟩ := sameBits_Ks n h1 h2 hb
    simp only [Instr.sameBits, Bool.and_eq_true, beq_iff_eq]
    exact ⟨by simpa using i1.symm, i2⟩
theorem findK_spec {q : KT} {k : AV} : ∀ {es : List (AV × AV)} {i j : Nat} {v : AV}, findK h q k es i = some (some (j, v)) → i ≤ j ∧ ∃ k', es[j - i]? = some (k', v) ∧ eqKey h q k k' = some true
  | [], i, j, v, hf => by simp only [findK] at hf; cases hf
  | (k', v') :: es, i, j, v, hf => by
    simp only [findK] at hf
    split at hf
    · rename_i heq
      injection hf with hf; injection hf with hf; injection hf with h1 h2
      subst h1; subst h2
      exact ⟨Nat.le_refl _, k', by simp, heq⟩
    · obtain ⟨h1, k2, h2, h3⟩ := findK_spec hf
      refine ⟨by omega, k2, ?_, h3⟩
      have e : j - i = (j - (i + 1)) + 1 := by omega
      rw [e, List.getElem?_cons_succ]; exact h2
    · cases hf
theorem modify_keys (en : Array MapEntry) (j : Nat) (f : MapEntry → MapEntry) (k u : Value) (hk : ∀ x, (f x).key = k) (hu : ∀ x, (f x).val = u) :
    (en.modify j f).toList.map (·.key) = (en.toList.map (·.key)).set j k ∧ (en.modify j f).toList.map (·.val) = (en.toList.map (·.val)).set j u := by
  constructor <;> (apply List.ext_getElem?; intro i; rw [List.getElem?_map, Array.getElem?_toList, Array.getElem?_modify, List.getElem?_set, List.getElem?_map, Array.getElem?_toList]; by_cases h : j = i)
  · subst h
    by_cases hl : j < en.size
    · simp [hl, hk]
    · simp [hl, Nat.le_of_not_lt hl]
  · simp [h]
  · subst h
    by_cases hl : j < en.size
    · simp [hl, hu]
    · simp [hl, Nat.le_of_not_lt hl]
  · simp [h]
theorem e_up {o : Oper} {t : TypeId} {m k x : Operand} (hop : o.op = .mapUpdate t m k x ∨ o.op = .insert t m k x) (hr : Rel s h w) (hG : GlobR s w G) (he : EnvR s w e a) {i : I} (hc : cOp P o.op = some i) {v : AV} {h' : H} (hv : evE U G i e h = some (v, h')) : EOK P s w o a v h' := by
  have hex : ∀ nx w', ((Instr.mapUpdate t (a.eval m) (a.eval k) (a.eval x)).run P w = .ok () w') → nx = Next.skip → (execOp a.eval o).run P w = .ok nx w' := by
    intro nx w' h1 h2
    subst h2
    rcases hop with hop | hop <;> simp [execOp, hop, h1]
  have hc' : ∃ kt el q m' k' x', P.underlying t = some (.map kt el) ∧ ktOf P kt = some q ∧ cX m = some m' ∧ cX k = some k' ∧ cX x = some x' ∧ i = .up q m' k' x' := by
    rcases hop with hop | hop <;> rw [hop] at hc <;> simp only [cOp] at hc <;> (split at hc <;> first | (cases hc; done) | skip) <;> (split at hc <;> first | (cases hc; done) | skip)
    all_goals
      rename_i kt el hu _ q hq
      simp only [Option.bind_eq_bind, Option.bind_eq_some_iff, Option.some.injEq] at hc
      obtain ⟨m', hm, k', hk, x', hx, rfl⟩ := hc
      exact ⟨kt, el, q, m', k', x', hu, hq, hm, hk, hx, rfl⟩
  obtain ⟨kt, el, q, m', k', x', hu, hq, hm, hk, hx, rfl⟩ := hc'
  have hmv := cX_VR hG he hm
  have hkv := cX_VR hG he hk
  have hxv := cX_VR hG he hx
  simp only [evE] at hv
  split at hv
  · rename_i l hl
    rw [hl] at hmv
    split at hv
    · rename_i es hget
      split at hv
      · rename_i hok
        simp only [VR] at hmv
        obtain ⟨b, d, mm, h1, h2⟩ := hmv
        obtain ⟨en, clock, g1, g2, g3⟩ := hr.obj l b d mm _ h1 hget
        have hck := check_run (P := P) (s := s) hq hkv hok false
        split at hv
        · rename_i j z hfind
          injection hv with hv
          injection hv with hv1 hv2
          subst hv1; subst hv2
          obtain ⟨r', hf, hfr⟩ := find_run (P := P) hr hq hkv g2 g3 hfind
          obtain ⟨u, rfl, hu'⟩ := hfr
          obtain ⟨_, k0, hk0, heq⟩ := findK_spec hfind
          simp only [Nat.sub_zero] at hk0
          obtain ⟨ok, hok1, hok2⟩ := VRs_get g2 (i := j) (c := k0) (by rw [List.getElem?_map, hk0]; rfl)
          have hent : ∃ ent, en[j]? = some ent ∧ ent.key = ok := by
            rw [List.getElem?_map] at hok1
            obtain ⟨ent, he1, he2⟩ := Option.map_eq_some_iff.1 hok1
            exact ⟨ent, by simpa using he1, he2⟩
          obtain ⟨ent, he1, he2⟩ := hent
          have hsb := sameBits_key (h := h) hkv hok2 heq 9998
          have hks : (Instr.keyThatStays ok (a.eval k)).run P w = .ok (a.eval k) w := by simp [Instr.keyThatStays, hsb]
          obtain ⟨mk1, mk2⟩ := modify_keys en j (fun e => { e with key := a.eval k, val := a.eval x }) (a.eval k) (a.eval x) (fun _ => rfl) (fun _ => rfl)
          have ht := turn_map (es' := setK (k'.ev G e) (x'.ev G e) es j) (en' := en.modify j fun e => { e with key := a.eval k, val := a.eval x }) (clock' := clock) hr h1 hget
            (by rw [mk1, setK_keys]; exact VRs_set g2 j hkv) (by rw [mk2, setK_vals]; exact VRs_set g3 j hxv)
          refine ⟨undef, _, _, s, hex _ _ ?_ rfl, .inr ⟨rfl, rfl⟩, ht.1, ht.2, by simp only [VR]⟩
          simp [Instr.mapUpdate, run_underlying hu, h2, getObj, setObj, Sem.run, g1, hck, hf, he1, he2, hks]
        · rename_i hfind
          injection hv with hv
          injection hv with hv1 hv2
          subst hv1; subst hv2
          obtain ⟨r', hf, hfr⟩ := find_run (P := P) hr hq hkv g2 g3 hfind
          simp only [FindR] at hfr
          subst hfr
          have ht := turn_map (es' := es ++ [(k'.ev G e, x'.ev G e)]) (en' := en.push { key := a.eval k, val := a.eval x, born := clock }) (clock' := clock + 1) hr h1 hget
            (by simp only [List.map_append, Array.toList_push, List.map_cons, List.map_nil]; exact VRs_snoc g2 hkv) (by simp only [List.map_append, Array.toList_push, List.map_cons, List.map_nil]; exact VRs_snoc g3 hxv)
          refine ⟨undef, _, _, s, hex _ _ ?_ rfl, .inr ⟨rfl, rfl⟩, ht.1, ht.2, by simp only [VR]⟩
          simp [Instr.mapUpdate, run_underlying hu, h2, getObj, setObj, Sem.run, g1, hck, hf]
        · cases hv
      · cases hv
    · cases hv
  · cases hv
end
end Go.Eng
namespace Go.Eng
section
variable {P : Program} {s : St} {h : H} {w : World} {G : Nat → AV} {e : Env} {a : Act} {U : List (TypeId × TypeId)}
theorem Rel.move {s : St} {h : H} {w w' : World} (hr : Rel s h w) {l b d m d' m' : Nat} (o : AObj) (hl : s.ρ l = some (b, d, m)) (hlive : (h.get l).isSome = true) (hk : Keep s w w') (hsz : w'.heap.size = w.heap.size) (hold : ∀ k, k ≠ b → w'.heap[k]? = w.heap[k]?)
    (ho : Step s w (s.add h.next (b, d', m')) w' → ObjR (s.add h.next (b, d', m')) w' b d' m' o) : Rel (s.add h.next (b, d', m')) ((h.del l).new o) w' ∧ Step s w (s.add h.next (b, d', m')) w' := by
  have st : Step s w (s.add h.next (b, d', m')) w' := Step.add hr (.inr ⟨l, d, m, hl⟩) hk
  have old : ∀ l x, (s.add h.next (b, d', m')).ρ l = some x → (l = h.next ∧ x = (b, d', m')) ∨ (l ≠ h.next ∧ s.ρ l = some x) := by
    intro l x hl
    simp only [St.add] at hl
    split at hl
    · injection hl with e; exact .inl ⟨‹_›, e.symm⟩
    · exact .inr ⟨‹_›, hl⟩
  have dead : ∀ l1 b1 d1 m1, s.ρ l1 = some (b1, d1, m1) → (((h.del l).new o).get l1).isSome = true → l1 ≠ h.next → b1 ≠ b ∧ (h.get l1).isSome = true ∧ l1 ≠ l := by
    intro l1 b1 d1 m1 h1 g hne
    rw [H.get_new, H.next_del, if_neg hne, H.get_del] at g
    split at g
    · cases g
    · rename_i hll
      refine ⟨fun e => hll ?_, g, hll⟩
      subst e
      exact hr.inj l1 l b1 d1 m1 d m h1 hl g hlive
  refine ⟨⟨by rw [H.next_new, H.next_del]; exact Nat.le_succ_of_le hr.low, fun l1 b1 d1 m1 h1 => ?_, fun l1 b1 d1 m1 h1 => ?_, fun b1 hb1 => by rw [hsz]; exact hr.Flt b1 hb1, fun l1 l2 b1 d1 m1 d2 m2 h1 h2 g1 g2 => ?_, fun l1 b1 d1 m1 o1 h1 ho1 => ?_⟩, st⟩
  · rw [H.next_new, H.next_del, hsz]
    rcases old l1 _ h1 with ⟨rfl, e⟩ | ⟨_, h1⟩
    · injection e with e1 _; subst e1; exact ⟨by omega, ltF hr hl⟩
    · have := hr.lt l1 b1 d1 m1 h1; omega
  · rcases old l1 _ h1 with ⟨rfl, e⟩ | ⟨_, h1⟩
    · injection e with e1 _; subst e1; exact hr.apart l _ _ _ hl
    · exact hr.apart l1 b1 d1 m1 h1
  · rcases old l1 _ h1 with ⟨e1, e⟩ | ⟨n1, h3⟩ <;> rcases old l2 _ h2 with ⟨e2, e'⟩ | ⟨n2, h4⟩
    · rw [e1, e2]
    · injection e with e3 _
      exact absurd e3 (dead l2 b1 d2 m2 h4 g2 n2).1
    · injection e' with e3 _
      exact absurd e3 (dead l1 b1 d1 m1 h3 g1 n1).1
    · exact hr.inj l1 l2 b1 d1 m1 d2 m2 h3 h4 (dead l1 b1 d1 m1 h3 g1 n1).2.1 (dead l2 b1 d2 m2 h4 g2 n2).2.1
  · rcases old l1 _ h1 with ⟨e1, e⟩ | ⟨n1, h3⟩
    · rw [H.get_new, H.next_del, if_pos e1] at ho1
      injection ho1 with ho1; subst ho1
      injection e with e1 e2; subst e1
      injection e2 with e2 e3; subst e2; subst e3
      exact ho st
    · have hdd := dead l1 b1 d1 m1 h3 (by rw [ho1]; rfl) n1
      rw [H.get_new, H.next_del, if_neg n1, H.get_del, if_neg hdd.2.2] at ho1
      exact ObjR.mono st hr.apart (hr.obj l1 b1 d1 m1 o1 h3 ho1) (hold b1 hdd.1)
theorem app_zero {t tx ty el : TypeId} {inf : TypeInfo} (ht : P.underlying t = some (.slice el)) (hi : P.info? el = some inf) {x : Value} {news : List Value} (hs : Src P inf.size tx x 0 news w) {A : Option Addr} {n c : Nat} (hc : n ≤ c) :
    (Builtin.append_ #[t, tx] ty #[.slice A n c, x]).run P w = .ok (.slice A n c) w := by
  have hn : news = [] := by have := hs.newsLen; simpa using this
  subst hn
  have hcl := hs.cells
  rcases hs.kind with ⟨e', hk⟩ | hk <;> cases A <;> simp [Builtin.append_, run_underlying ht, run_underlying hk, sizeOf, typeInfo, hi, hs.len, hc, hcl, storeCells]
theorem app_room {t tx ty el : TypeId} {inf : TypeInfo} (ht : P.underlying t = some (.slice el)) (hi : P.info? el = some inf) {x : Value} {m : Nat} {news : List Value} (hs : Src P inf.size tx x m news w) {ad : Addr} {n c : Nat} (hc : n + m ≤ c) {w' : World}
    (hst : (storeCells (ad.add (n * inf.size)) news).run P w = .ok () w') :
    (Builtin.append_ #[t, tx] ty #[.slice (some ad) n c, x]).run P w = .ok (.slice (some ad) (n + m) c) w' := by
  have hcl := hs.cells
  rcases hs.kind with ⟨e', hk⟩ | hk <;> simp [Builtin.append_, run_underlying ht, run_underlying hk, sizeOf, typeInfo, hi, hs.len, hc, hcl, hst]
theorem app_grow (hr : Rel s h w) {t tx ty el : TypeId} {inf : TypeInfo} {z : Value} (ht : P.underlying t = some (.slice el)) (hi : P.info? el = some inf) (hz : inf.zero = some z) (hzs : z.cells.size = inf.size) {x : Value} {m : Nat} {news : List Value} (hs : Src P inf.size tx x m news w)
    {A : Option Addr} {n c : Nat} {olds : List Value} (hold : (Builtin.firstCells inf.size n (.slice A n c)).run P w.drew = .ok olds.toArray w.drew) (hol : olds.length = n * inf.size) (hg : c < n + m) (hb : (n + m) * inf.bytes ≤ roomB) (hby : 0 < inf.bytes)
    {cs ns : List AV} (h1 : VRs s w cs olds) (h2 : VRs s w ns news) (l1 : ∀ x ∈ cs, x.leaf = true) (l2 : ∀ x ∈ ns, x.leaf = true) {fz : Nat} :
    ∃ v' w' s', (Builtin.append_ #[t, tx] ty #[.slice A n c, x]).run P w = .ok v' w' ∧ Rel s' (h.new (.cells (cs ++ ns) el (some fz))) w' ∧ Step s w s' w' ∧ VR s' w' (.sl h.next 0 inf.size (n + m) (n + m) false) v' := by
  have hsmall : n + m ≤ roomB := Nat.le_trans (Nat.le_mul_of_pos_right _ hby) hb
  have hrun := run_append_grow_src (P := P) w t tx ty el inf z ht hi hz A n c olds hold x m news hs hg (by unfold roomB at hsmall; omega) (growslice_fits hg (by unfold roomB at hb; exact hb))
  have hge := grownCap_ge w (n + m) c el
  have hnl := hs.newsLen
  have hcsz : ((olds ++ news).toArray ++ Builtin.zeroCells z.cells (grownCap w (n + m) c el - (n + m))).size = grownCap w (n + m) c el * inf.size := by
    simp only [Array.size_append, List.size_toArray, List.length_append, size_zeroCells, hzs, hol, hnl]
    rw [← Nat.add_mul, ← Nat.add_mul]
    congr 1
    omega
  have hv := VRs_append h1 h2
  have hvl := VRs_length hv
  simp only [List.length_append] at hvl
  have hr' := hr.drew
  have hv' : VRs s w.drew (cs ++ ns) (((olds ++ news).toArray ++ Builtin.zeroCells z.cells (grownCap w (n + m) c el - (n + m))).toList.take (cs ++ ns).length) := by
    have e1 : (cs ++ ns).length = (olds ++ news).length := by simp only [List.length_append]; omega
    rw [e1]
    simp only [Array.toList_append, List.take_left']
    exact VRs.mono (Step.drew s w) hr.apart hv
  obtain ⟨g1, g2⟩ := alloc_cells (t := el) (fz := some fz) hr' hv' (by
      simp only [Array.size_append, List.size_toArray, List.length_append]
      omega) (fun x hx => by
      rcases List.mem_append.1 hx with hx | hx
      · exact l1 x hx
      · exact l2 x hx) 0 0 (fun z _ => Nat.zero_le _)
  refine ⟨_, _, _, hrun, g1, (Step.drew s w).trans g2, ?_⟩
  simp only [VR]
  refine ⟨_, _, _, _, _, add_self _ _ _, rfl, Nat.le_refl _, .inl ⟨rfl, hge, fun hh => (by cases hh), ?_⟩⟩
  rw [hcsz]; omega
theorem app_move (hr : Rel s h w) {l b d m off len sz z : Nat} {cs ns old : List AV} {t : TypeId} (hρ : s.ρ l = some (b, d, m)) (hg : h.get l = some (.cells cs t (some z))) (hsub : sub cs off (len * sz) = some old) {news : List Value} (hn : VRs s w ns news) (hnl : ∀ x ∈ ns, x.leaf = true)
    (hfit : off + len * sz + news.length ≤ m) (hz : z ≤ off + len * sz) (hU : off = 0 ∨ s.U.all (fun p => p.1 != t) = true) :
    ∃ w', (storeCells (⟨b, d + (off + len * sz), none⟩) news).run P w = .ok () w' ∧ Rel (s.add h.next (b, d + off, m - off)) ((h.del l).new (.cells (old ++ ns) t (some (z - off)))) w' ∧ Step s w (s.add h.next (b, d + off, m - off)) w' := by
  obtain ⟨c, lo, hi, g1, g2, g3, g4, g5, g6, g7⟩ := hr.obj l b d m _ hρ hg
  have hnn := VRs_length hn
  obtain ⟨hold, hol, hofl⟩ := sub_some hsub
  have hone : ∀ v ∈ news, v.oneCell' = true := by
    intro v hvm
    obtain ⟨i, hi⟩ := List.mem_iff_getElem?.1 hvm
    obtain ⟨x, hx, hxv⟩ := VRs_get' hn hi
    exact VR_oneCell hxv (hnl x (List.mem_of_getElem? hx))
  have hst := run_storeCells_atF P b (d + (off + len * sz)) t (lo, hi) news 0 c w g1 (by have := g2 z rfl; simp only; omega) (by omega) hone
  simp only [Nat.add_zero] at hst
  have hkeep := keep_setRow s w hρ (c.toList.take (d + (off + len * sz)) ++ news ++ c.toList.drop (d + (off + len * sz) + news.length)).toArray
  have hmv := Rel.move (d' := d + off) (m' := m - off) hr (.cells (old ++ ns) t (some (z - off))) hρ (by rw [hg]; rfl) hkeep (setRow_size _ _ _) (fun k hk => setRow_other w b k _ hk) (fun st => by
    refine ⟨_, lo, hi, setRow_heap w b c _ t (lo, hi) g1, ?_, ?_, ?_, ?_, ?_, ?_⟩
    · intro z' hz'; injection hz' with hz'; have := g2 z rfl; omega
    · simp; omega
    · simp; omega
    · intro x hx
      rcases List.mem_append.1 hx with hx | hx
      · rw [hold] at hx; exact g5 x (List.mem_of_mem_drop (List.mem_of_mem_take hx))
      · exact hnl x hx
    · have hv1 : VRs s w old (((((c.toList.drop d).take cs.length).drop off).take (len * sz))) := by
        rw [hold]; exact VRs_take (VRs_drop g6 off) _
      have hv2 := VRs_append (VRs.mono st hr.apart hv1) (VRs.mono st hr.apart hn)
      have hlen : (old ++ ns).length = len * sz + news.length := by simp; omega
      rw [hlen]
      have hcs : c.toList.length = d + m := by simpa using g3
      have e : ((c.toList.take (d + (off + len * sz)) ++ news ++ c.toList.drop (d + (off + len * sz) + news.length)).drop (d + off)).take (len * sz + news.length) = ((((c.toList.drop d).take cs.length).drop off).take (len * sz)) ++ news := by
        apply List.ext_getElem?
        intro j
        by_cases hj : j < len * sz + news.length
        · rw [List.getElem?_take, if_pos hj, List.getElem?_drop]
          by_cases h1 : j < len * sz
          · rw [List.append_assoc, List.getElem?_append_left (by simp; omega), List.getElem?_take, if_pos (by omega)]
            rw [List.getElem?_append_left (by simp; omega), List.getElem?_take, if_pos h1, List.getElem?_drop, List.getElem?_take, if_pos (by omega), List.getElem?_drop]
            congr 1; omega
          · rw [List.append_assoc, List.getElem?_append_right (by simp; omega)]
            have e1 : d + off + j - (c.toList.take (d + (off + len * sz))).length = j - len * sz := by simp; omega
            rw [e1, List.getElem?_append_left (by omega)]
            rw [List.getElem?_append_right (by simp; omega)]
            congr 1
            simp; omega
        · rw [List.getElem?_eq_none (by simp; omega), List.getElem?_eq_none (by simp; omega)]
      have goal : VRs (s.add h.next (b, d + off, m - off)) (w.setRow b (c.toList.take (d + (off + len * sz)) ++ news ++ c.toList.drop (d + (off + len * sz) + news.length)).toArray) (old ++ ns) (((c.toList.take (d + (off + len * sz)) ++ news ++ c.toList.drop (d + (off + len * sz) + news.length)).drop (d + off)).take (len * sz + news.length)) := by
        rw [e]; exact hv2
      exact goal
    · intro u hu
      have hu' : s.U.contains (t, u) = true := hu
      have hd0 := g7 u hu'
      rcases hU with h0 | h0
      · omega
      · simp only [List.all_eq_true, bne_iff_ne, ne_eq] at h0
        have := h0 (t, u) (by simpa using hu')
        exact absurd rfl this)
  exact ⟨_, hst, hmv.1, hmv.2⟩
theorem evApp_sound (hsU : s.U = U) (hr : Rel s h w) {t tx ty el : TypeId} {inf : TypeInfo} {z : Value} (ht : P.underlying t = some (.slice el)) (hi : P.info? el = some inf) (hz : inf.zero = some z) (hzs : z.cells.size = inf.size) (hsz : 0 < inf.size) (hby : 0 < inf.bytes)
    {x : Value} {m : Nat} {ns : List AV} {news : List Value} (hs : Src P inf.size tx x m news w) (hn : VRs s w ns news) (hnl : ∀ x ∈ ns, x.leaf = true) {sv : AV} {sr : Value} (hsv : VR s w sv sr) {v : AV} {h' : H} (hv : evApp U inf.size inf.bytes el sv m ns h = some (v, h')) :
    ∃ v' w' s', (Builtin.append_ #[t, tx] ty #[sr, x]).run P w = .ok v' w' ∧ Rel s' h' w' ∧ Step s w s' w' ∧ VR s' w' v v' := by
  have hnn := VRs_length hn
  have hnl2 := hs.newsLen
  unfold evApp at hv
  split at hv
  ·
    rename_i hm0
    subst hm0
    have same : ∀ (A : Option Addr) (n c : Nat), sr = .slice A n c → n ≤ c → v = sv → h' = h → ∃ v' w' s', (Builtin.append_ #[t, tx] ty #[sr, x]).run P w = .ok v' w' ∧ Rel s' h' w' ∧ Step s w s' w' ∧ VR s' w' v v' := by
      intro A n c h1 h2 h3 h4
      subst h1; subst h3; subst h4
      exact ⟨_, w, s, app_zero ht hi hs h2, hr, Step.refl _ _, hsv⟩
    split at hv <;> first | (cases hv; done) | skip
    · injection hv with hv; injection hv with e1 e2
      have : sr = .slice none 0 0 := by simpa only [VR] using hsv
      exact same _ _ _ this (Nat.le_refl _) e1.symm e2.symm
    · split at hv
      · injection hv with hv; injection hv with e1 e2
        obtain ⟨b, d, mm, ad, c, g1, g2, g3, g4⟩ := VR_sl hsv
        exact same _ _ _ g2 (by rcases g4 with ⟨_, g5, _⟩ | ⟨g5, g6, _⟩ <;> omega) e1.symm e2.symm
      · cases hv
    · injection hv with hv; injection hv with e1 e2
      obtain ⟨A, c, g1, g2, _⟩ := VR_fsl hsv
      exact same _ _ _ g1 g2 e1.symm e2.symm
  · rename_i hm0
    split at hv <;> first | (cases hv; done) | skip
    ·
      split at hv
      · rename_i hb
        injection hv with hv; injection hv with e1 e2
        subst e1; subst e2
        have hsn : sr = .slice none 0 0 := by simpa only [VR] using hsv
        subst hsn
        have g := app_grow (ty := ty) (fz := 0) (cs := []) (olds := []) (n := 0) (c := 0) hr ht hi hz hzs hs (run_firstCells_none w.drew _ _ _ _) (by simp) (by omega) (by simpa using hb) hby (by simp [VRs]) hn (fun _ h => by cases h) hnl
        simpa using g
      · cases hv
    ·
      rename_i full sz' es
      split at hv
      · rename_i hcond
        simp only [Bool.and_eq_true, beq_iff_eq, decide_eq_true_eq] at hcond
        obtain ⟨⟨hfull, hszz⟩, hb⟩ := hcond
        injection hv with hv; injection hv with e1 e2
        subst e1; subst e2
        obtain ⟨A, c, g1, g2, g3, _⟩ := VR_fsl hsv
        have hsrc : srcOf h inf.size (.fsl full sz' es) = some (es.length, es.flatMap (·.cells)) := by simp [srcOf, hszz]
        obtain ⟨A', c', rs, k1, k2, k3, k4, k5⟩ := srcOf_sound hr hsv hsrc
        have hold : (Builtin.firstCells inf.size es.length sr).run P w.drew = .ok rs.toArray w.drew := by
          rw [k1]
          rcases k5 with ⟨rfl, k6, rfl⟩ | ⟨ad, rfl, k6⟩
          · exact run_firstCells_none w.drew _ _ _ _
          · exact run_firstCells_some w.drew inf.size es.length ad es.length c' rs k4 (fun j v hj => by simpa using k6 j v hj)
        subst g1
        injection k1 with k7 _ k8
        subst k7; subst k8
        exact app_grow (ty := ty) (fz := 0) hr ht hi hz hzs hs hold k4 (by have := g3 hfull; omega) hb hby k2 hn k3 hnl
      · cases hv
    ·
      rename_i l off sz' len cap ex
      split at hv
      · rename_i hcond
        obtain ⟨rfl, hb⟩ := hcond
        split at hv
        · rename_i cs t' fz hget
          split at hv
          · rename_i htt
            subst htt
            obtain ⟨b, d, mm, ad, c, g1, rfl, g3, g4⟩ := VR_sl hsv
            split at hv
            ·
              rename_i hcap
              split at hv
              · rename_i hfit
                injection hv with hv; injection hv with e1 e2
                subst e1; subst e2
                rcases g4 with ⟨rfl, g5, g6, g7⟩ | ⟨rfl, rfl, rfl, _⟩
                · have e3 : (len + m) * inf.size = len * inf.size + m * inf.size := Nat.add_mul ..
                  obtain ⟨w', k1, k2, k3⟩ := write_cells (P := P) hr g1 hget hn hnl (off := off + len * inf.size) (by omega) hfit.2
                  refine ⟨_, w', s, app_room (ty := ty) ht hi hs (by omega) (by rw [addr_add, Nat.add_assoc]; exact k1), k2, k3, ?_⟩
                  simp only [VR]
                  exact ⟨b, d, mm, _, c, g1, rfl, hcap, .inl ⟨rfl, g5, g6, g7⟩⟩
                · omega
              · cases hv
            · rename_i hcap
              split at hv
              · rename_i old hsub
                have hsrc : srcOf h inf.size (.sl l off inf.size len cap ex) = some (len, old) := by simp [srcOf, hget, hsub]
                obtain ⟨A', c', rs, k1, k2, k3, k4, k5⟩ := srcOf_sound hr hsv hsrc
                injection k1 with k7 _ k8
                subst k7; subst k8
                have k6 : Holds w ad rs := by
                  rcases k5 with ⟨k5, _⟩ | ⟨ad', k5, k6⟩
                  · cases k5
                  · injection k5 with k5; subst k5; exact k6
                have hold : (Builtin.firstCells inf.size len (.slice (some ad) len c)).run P w.drew = .ok rs.toArray w.drew :=
                  run_firstCells_some w.drew inf.size len ad len c rs k4 (fun j v hj => by simpa using k6 j v hj)
                split at hv
                · rename_i hex
                  injection hv with hv; injection hv with e1 e2
                  subst e1; subst e2
                  have hc : c = cap := by rcases g4 with ⟨_, _, g6, _⟩ | ⟨_, _, _, g6⟩ <;> first | exact g6 hex | (rw [hex] at g6; cases g6)
                  exact app_grow (ty := ty) (fz := 0) hr ht hi hz hzs hs hold k4 (by omega) hb hby k2 hn k3 hnl
                · split at hv
                  · rename_i hfz
                    injection hv with hv; injection hv with e1 e2
                    subst e1; subst e2
                    by_cases hroom : len + m ≤ c
                    ·
                      rcases g4 with ⟨rfl, g5, g6, g7⟩ | ⟨rfl, rfl, rfl, _⟩
                      · have e3 : (len + m) * inf.size = len * inf.size + m * inf.size := Nat.add_mul ..
                        have e4 : (len + m) * inf.size ≤ c * inf.size := Nat.mul_le_mul_right _ hroom
                        obtain ⟨w', q1, q2, q3⟩ := app_move (P := P) hr g1 hget hsub hn hnl (by omega) hfz.1 (by rw [hsU]; exact hfz.2)
                        refine ⟨_, w', _, app_room (ty := ty) ht hi hs hroom (by rw [addr_add, Nat.add_assoc]; exact q1), q2, q3, ?_⟩
                        simp only [VR]
                        refine ⟨b, d + off, mm - off, _, c, add_self _ _ _, rfl, Nat.le_refl _, .inl ⟨rfl, hroom, fun hh => (by cases hh), ?_⟩⟩
                        omega
                      · omega
                    · have hr2 := hr.del l
                      have g := app_grow (ty := ty) (fz := fz - off) (h := h.del l) hr2 ht hi hz hzs hs hold k4 (by omega) hb hby k2 hn k3 hnl
                      exact g
                  · cases hv
              · cases hv
          · cases hv
        · cases hv
      · cases hv
end
end Go.Eng
