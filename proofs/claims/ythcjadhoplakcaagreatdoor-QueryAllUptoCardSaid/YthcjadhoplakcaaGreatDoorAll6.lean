/- The law QueryAll of package grommetlaw24 answers true and turns no argument, for all arguments that are together of bulk at most 1048576; condition: the listed package variables start as the program's text lays them. (part 6.) -/
import Derived.Test.YthcjadhoplakcaaGreatDoorAll5
import Derived.Lib.UnsafeStr
import Derived.Laws.IdiomStrings
set_option linter.unusedSimpArgs false
set_option linter.unusedVariables false
namespace Go.Eng
section
variable {P : Program} {s : St} {h : H} {w : World} {G : Nat → AV} {e : Env} {a : Act} {U : List (TypeId × TypeId)}
theorem one_of_leaf {cs : List AV} {rs : List Value} (h : VRs s w cs rs) (hl : ∀ c ∈ cs, c.leaf = true) : ∀ u ∈ rs, u.oneCell' = true := by
  intro v hvm
  obtain ⟨i, hi⟩ := List.mem_iff_getElem?.1 hvm
  obtain ⟨x, hx, hxv⟩ := VRs_get' h hi
  exact VR_oneCell hxv (hl x (List.mem_of_getElem? hx))
theorem src_slice {n m : Nat} {tx e' : TypeId} (hk : P.underlying tx = some (.slice e')) (hr : Rel s h w) {x : AV} {xv : Value} {cs : List AV} (hx : VR s w x xv) (hs : srcOf h n x = some (m, cs)) :
    ∃ rs, Src P n tx xv m rs w ∧ VRs s w cs rs ∧ ∀ c ∈ cs, c.leaf = true := by
  obtain ⟨A, c, rs, h1, h2, h3, h4, h5⟩ := srcOf_sound hr hx hs
  refine ⟨rs, ?_, h2, h3⟩
  rw [h1]
  rcases h5 with ⟨rfl, rfl, rfl⟩ | ⟨ad, rfl, h6⟩
  · exact Src.ofNil w hk c
  · exact Src.ofSlice w hk ad m c rs h4 h6 (one_of_leaf h2 h3)
theorem VRs_byteCells {l : List Nat} {b : ByteArray} (hb : b.data.toList.map UInt8.toNat = l) : VRs s w (l.map fun n : Nat => AV.int .u8 n) (byteCells b) := by
  subst hb
  unfold byteCells
  refine VRs_of (by simp) fun i c r hc hr => ?_
  rw [List.getElem?_map, List.getElem?_map] at hc
  rw [List.getElem?_map] at hr
  cases hx : b.data.toList[i]? with
  | none => rw [hx] at hr; cases hr
  | some x =>
    rw [hx] at hc hr
    simp at hc hr
    subst hc; subst hr
    simp only [VR]
theorem e_mkS {o : Oper} {t : TypeId} {n c : Operand} (hop : o.op = .makeSlice t n c) (hr : Rel s h w) (hG : GlobR s w G) (he : EnvR s w e a) {i : I} (hc : cOp P o.op = some i) {v : AV} {h' : H} (hv : evE U G i e h = some (v, h')) : EOK P s w o a v h' := by
  rw [hop] at hc
  simp only [cOp] at hc
  split at hc
  · rename_i el hu
    split at hc
    · rename_i inf z hi hz
      split at hc
      · rename_i hcond
        simp only [Bool.and_eq_true, decide_eq_true_eq] at hcond
        simp only [Option.bind_eq_bind, Option.bind_eq_some_iff, Option.some.injEq] at hc
        obtain ⟨n', hn, c', hcc, rfl⟩ := hc
        have hnv := cX_VR hG he hn
        have hcv := cX_VR hG he hcc
        obtain ⟨inf', zv, h1, h2, h3, h4, h5⟩ := zeroOf_VR (s := s) (w := w) hz
        rw [hi] at h1; injection h1 with h1; subst h1
        simp only [evE] at hv
        split at hv
        · rename_i k1 nn k2 cc e1 e2
          rw [e1] at hnv; rw [e2] at hcv
          split at hv
          · rename_i hcond2
            obtain ⟨c1, c2, c3, c4, c5⟩ := hcond2
            injection hv with hv; injection hv with hv1 hv2
            subst hv1; subst hv2
            have hn' := VR_int hnv
            have hc' := VR_int hcv
            have hcn : cc.toNat ≤ roomB := Nat.le_trans (Nat.le_mul_of_pos_right _ hcond.2) c3
            unfold roomB at hcn c3
            have hbytes : (inf.bytes : Int) * cc ≤ 281474976710656 := by
              have e3 : (cc.toNat : Int) = cc := Int.toNat_of_nonneg (by omega)
              have e4 : ((cc.toNat * inf.bytes : Nat) : Int) ≤ 281474976710656 := by omega
              rw [Int.natCast_mul, e3, Int.mul_comm] at e4
              exact e4
            have hrun := run_make (P := P) w t el inf zv hu hi h2 k1 k2 nn cc c1 c2 hbytes (by omega)
            have hcells : (madeCells zv.cells (cc.toNat * inf.size)).toList = (List.replicate cc.toNat zv.cells.toList).flatten := by
              rw [← zeros_toList]; unfold madeCells; rw [h3]
            have hvr := VRs_replicate h4 cc.toNat
            rw [← hcells] at hvr
            have hleaf : ∀ x ∈ (List.replicate cc.toNat z).flatten, x.leaf = true := by
              intro x hx
              simp only [List.mem_flatten, List.mem_replicate] at hx
              obtain ⟨l, ⟨_, rfl⟩, hx⟩ := hx
              exact h5 x hx
            have hlen := VRs_length hvr
            simp only [Array.length_toList] at hlen
            obtain ⟨g1, g2⟩ := alloc_cells (t := el) (fz := some 0) hr (VRs_self_take hvr) (by omega) hleaf 0 0 (fun z hz => by omega)
            refine ⟨.slice (some ⟨w.heap.size, 0, none⟩) nn.toNat cc.toNat, _, _, _, ?_, .inl rfl, g1, g2, ?_⟩
            · simp only [execOp, hop, hn', hc', Sem.run_bind, hrun, Result.andThen_ok, Sem.run_pure]
            · simp only [VR]
              refine ⟨_, _, _, _, _, add_self _ _ _, rfl, by omega, .inl ⟨rfl, Nat.le_refl _, fun _ => rfl, ?_⟩⟩
              rw [size_madeCells]
              omega
          · cases hv
        · cases hv
      · cases hc
    · cases hc
  · cases hc
theorem liesAt_at {e : TypeId} (hc : P.cellsOf e = 1) (count off n : Nat) (hn : off + n ≤ count) : liesAt P P.depth e count off e n = true := by
  have hd : P.depth = (2 * (P.types.size + Made.depth) + 1) + 1 := rfl
  rw [hd]
  simp only [liesAt, Bool.or_eq_true]
  left
  rw [hd]
  simp [rowAt, hc, hn, sameLayout, Nat.mod_one]
theorem loadBytes_run (w : World) : ∀ (l : List Int) (b o : Nat) (acc : ByteArray), (∀ j x, l[j]? = some x → w.cell? ⟨b, o + j, none⟩ = some (.int .u8 x)) →
    (loadBytes ⟨b, o, none⟩ acc l.length).run P w = .ok ⟨acc.data ++ (l.map fun n => UInt8.ofNat n.toNat).toArray⟩ w
  | [], b, o, acc, _ => by simp [loadBytes]
  | x :: l, b, o, acc, h => by
    have h0 : w.cell? ⟨b, o, none⟩ = some (.int .u8 x) := by simpa using h 0 x rfl
    have ih := loadBytes_run w l b (o + 1) (acc.push x.toNat.toUInt8) (fun j y hy => by
      have := h (j + 1) y (by simpa using hy)
      rw [Nat.add_assoc, Nat.add_comm 1 j]; exact this)
    have ha : (⟨b, o, none⟩ : Addr).add 1 = ⟨b, o + 1, none⟩ := by simp [Addr.add]
    simp only [List.length_cons, loadBytes, Sem.run_bind, run_load, h0, Result.andThen, ha]
    rw [ih]
    congr 1
    simp [ByteArray.push]
theorem freeze_cells (w : World) {b : Nat} {c : Array Value} {t : TypeId} {lo hi : Nat} (hb : w.heap[b]? = some (.cells c t (lo, hi))) (o n : Nat) (hn : n ≠ 0) :
    ∃ lo' hi', (w.freeze ⟨b, o, none⟩ n).heap[b]? = some (.cells c t (lo', hi')) ∧ (hi' ≤ max hi (o + n)) ∧ (∀ k, k ≠ b → (w.freeze ⟨b, o, none⟩ n).heap[k]? = w.heap[k]?) ∧ (w.freeze ⟨b, o, none⟩ n).heap.size = w.heap.size ∧
      (w.freeze ⟨b, o, none⟩ n).os = w.os ∧ (w.freeze ⟨b, o, none⟩ n).tape = w.tape ∧ (w.freeze ⟨b, o, none⟩ n).output = w.output := by
  unfold World.freeze
  rw [if_neg hn]
  refine ⟨(if lo == hi then (o, o + n) else (min lo o, max hi (o + n))).1, (if lo == hi then (o, o + n) else (min lo o, max hi (o + n))).2, ?_, ?_, ?_, ?_, rfl, rfl, rfl⟩
  · simp [Array.getElem?_modify, hb]
  · split
    · exact Nat.le_max_right _ _
    · exact Nat.le_refl _
  · intro k hk
    simp only [Array.getElem?_modify]
    rw [if_neg (Ne.symm hk)]
  · simp
theorem e_call {o : Oper} {c : Call} (hsU : s.U = U) (hop : o.op = .call c) (hr : Rel s h w) (hG : GlobR s w G) (he : EnvR s w e a) {i : I} (hc : cOp P o.op = some i) {v : AV} {h' : H} (hv : evE U G i e h = some (v, h')) : EOK P s w o a v h' := by
  rw [hop] at hc
  simp only [cOp, cCall] at hc
  obtain ⟨callee, args, argTypes⟩ := c
  simp only at hc
  split at hc
  · simp only [Option.bind_eq_bind, Option.bind_eq_some_iff, Option.some.injEq] at hc; obtain ⟨_, _, rfl⟩ := hc; cases hv
  · simp only [Option.bind_eq_bind, Option.bind_eq_some_iff, Option.some.injEq] at hc; obtain ⟨_, _, _, _, rfl⟩ := hc; cases hv
  · cases hc
  · rename_i b
    have fin : ∀ (x : Value) (w' : World) (s' : St), (builtin b argTypes o.type (args.map fun | .const _ => true | _ => false) (args.map a.eval)).run P w = .ok (.value x) w' → Rel s' h' w' → Step s w s' w' → VR s' w' v x → EOK P s w o a v h' := by
      intro x w' s' h1 h2 h3 h4
      refine ⟨x, _, w', s', ?_, .inl rfl, h2, h3, h4⟩
      simp only [execOp, hop, resolve, Sem.run_bind, Sem.run_pure, Result.andThen_ok, invoke]
      exact h1
    split at hc
    ·
      split at hc <;> first | (cases hc; done) | (obtain ⟨y, hy, rfl⟩ := do_some hc; cases hv)
    · obtain ⟨y, hy, rfl⟩ := do_some hc; cases hv
    · obtain ⟨y, hy, rfl⟩ := do_some hc; cases hv
    ·
      rename_i sx xx t u hargs htys
      have ha : args = #[sx, xx] := by cases args; simp at hargs; rw [hargs]
      have ht : argTypes = #[t, u] := by cases argTypes; simp at htys; rw [htys]
      subst ha; subst ht
      split at hc
      · rename_i el e' hu hu'
        split at hc
        · rename_i inf hi
          split at hc
          · rename_i z hz
            split at hc
            · rename_i hcond
              obtain ⟨c1, c2, c3⟩ := hcond
              simp only [Option.bind_eq_bind, Option.bind_eq_some_iff, Option.some.injEq] at hc
              obtain ⟨s', hs', x', hx', rfl⟩ := hc
              have hsv := cX_VR hG he hs'
              have hxv := cX_VR hG he hx'
              simp only [evE] at hv
              split at hv
              · rename_i m news hsrc
                obtain ⟨rs, g1, g2, g3⟩ := src_slice hu' hr hxv hsrc
                obtain ⟨v', w', s2, k1, k2, k3, k4⟩ := evApp_sound (ty := o.type) hsU hr hu hi hz c3 c1 c2 g1 g2 g3 hsv hv
                refine fin v' w' s2 ?_ k2 k3 k4
                simp only [builtin]
                rw [show (#[sx, xx] : Array Operand).map a.eval = #[a.eval sx, a.eval xx] by simp]
                show ((Builtin.append_ #[t, u] o.type #[a.eval sx, a.eval xx]) >>= fun v => pure (Next.value v)).run P w = _
                rw [Sem.run_bind, k1]; rfl
              · cases hv
            · cases hc
          · cases hc
        · cases hc
      · rename_i el hu hu'
        split at hc
        · rename_i inf hi
          split at hc
          · rename_i z hz
            split at hc
            · rename_i hcond
              obtain ⟨c1, c2, c3⟩ := hcond
              simp only [Option.bind_eq_bind, Option.bind_eq_some_iff, Option.some.injEq] at hc
              obtain ⟨s', hs', x', hx', rfl⟩ := hc
              have hsv := cX_VR hG he hs'
              have hxv := cX_VR hG he hx'
              simp only [evE] at hv
              split at hv
              · rename_i l hl
                rw [hl] at hxv
                obtain ⟨bs, h1, h2⟩ := VR_str hxv
                have g1 : Src P inf.size u (a.eval xx) l.length (byteCells bs) w := by
                  rw [h1, c1, str_len h2]; exact Src.ofString w hu' bs
                have hle : ∀ x ∈ (l.map fun n : Nat => AV.int .u8 n), x.leaf = true := by
                  intro x hx
                  obtain ⟨_, _, rfl⟩ := List.mem_map.1 hx
                  rfl
                rw [← c1] at hv
                obtain ⟨v', w', s2, k1, k2, k3, k4⟩ := evApp_sound (ty := o.type) hsU hr hu hi hz c3 (by omega) c2 g1 (VRs_byteCells h2) hle hsv hv
                refine fin v' w' s2 ?_ k2 k3 k4
                simp only [builtin]
                rw [show (#[sx, xx] : Array Operand).map a.eval = #[a.eval sx, a.eval xx] by simp]
                show ((Builtin.append_ #[t, u] o.type #[a.eval sx, a.eval xx]) >>= fun v => pure (Next.value v)).run P w = _
                rw [Sem.run_bind, k1]; rfl
              · cases hv
            · cases hc
          · cases hc
        · cases hc
      · cases hc
    ·
      split at hc <;> first | (cases hc; done) | skip
      all_goals
        split at hc <;> first | (cases hc; done) | skip
        simp only [Option.bind_eq_bind, Option.bind_eq_some_iff, Option.some.injEq] at hc
        obtain ⟨_, _, _, _, rfl⟩ := hc
        cases hv
    ·
      rename_i x t hargs htys
      have ha : args = #[x] := by cases args; simp at hargs; rw [hargs]
      have ht : argTypes = #[t] := by cases argTypes; simp at htys; rw [htys]
      subst ha; subst ht
      split at hc
      · rename_i el hu
        split at hc
        · rename_i n z hn hz
          obtain ⟨y, hy, rfl⟩ := do_some hc
          have hx := cX_VR hG he hy
          obtain ⟨inf, zv, h1, h2, h3, h4, h5⟩ := zeroOf_VR (s := s) (w := w) hz
          simp only [evE] at hv
          split at hv
          · rename_i hl
            rw [hl] at hx
            injection hv with hv; injection hv with hv1 hv2
            subst hv1; subst hv2
            have hxn : a.eval x = .slice none 0 0 := by simpa only [VR] using hx
            refine fin (.tuple #[]) w s ?_ hr (Step.refl _ _) (by simp only [VR]; exact ⟨#[], rfl, by simp [VRs]⟩)
            simp [builtin, Builtin.clear_, run_underlying hu, hxn]
          · rename_i l off sz len cap ex hl
            rw [hl] at hx
            obtain ⟨b, d, m, ad, c, g1, g2, g3, g4⟩ := VR_sl hx
            split at hv
            · rename_i hcond
              obtain ⟨c1, c2, c3, c4⟩ := hcond
              split at hv
              · rename_i ds t' fz hget
                split at hv
                · rename_i hfit
                  injection hv with hv; injection hv with hv1 hv2
                  subst hv1; subst hv2
                  have hvr := VRs_replicate h4 len
                  have hleaf : ∀ x ∈ (List.replicate len z).flatten, x.leaf = true := by
                    intro x hx
                    simp only [List.mem_flatten, List.mem_replicate] at hx
                    obtain ⟨l, ⟨_, rfl⟩, hx⟩ := hx
                    exact h5 x hx
                  have hlen : ((List.replicate len z).flatten).length = len * (n + 1) := by rw [replicate_flatten_length, c3]
                  obtain ⟨w', k1, k2, k3⟩ := write_cells (P := P) hr g1 hget hvr hleaf (off := off) (by rw [hlen]; exact hfit.1) hfit.2
                  refine fin (.tuple #[]) w' s ?_ k2 k3 (by simp only [VR]; exact ⟨#[], rfl, by simp [VRs]⟩)
                  rcases g4 with ⟨rfl, _⟩ | ⟨g5, _⟩
                  · have hz0 : (Builtin.zeroCells zv.cells len).toList = (List.replicate len zv.cells.toList).flatten := by
                      rw [← zeros_toList]; rfl
                    obtain ⟨len', rfl⟩ : ∃ k, len = k + 1 := ⟨len - 1, by omega⟩
                    simp [builtin, Builtin.clear_, run_underlying hu, g2, zeroValue, typeInfo, h1, h2, hz0, k1]
                  · omega
                · cases hv
              · cases hv
            · split at hv
              · rename_i hcond
                obtain ⟨c1, rfl⟩ := hcond
                injection hv with hv; injection hv with hv1 hv2
                subst hv1; subst hv2
                refine fin (.tuple #[]) w s ?_ hr (Step.refl _ _) (by simp only [VR]; exact ⟨#[], rfl, by simp [VRs]⟩)
                simp [builtin, Builtin.clear_, run_underlying hu, g2]
              · cases hv
          · cases hv
        · cases hc
      · cases hc
    ·
      split at hc <;> first | (cases hc; done) | skip
      split at hc <;> first | (cases hc; done) | skip
      simp only [Option.bind_eq_bind, Option.bind_eq_some_iff, Option.some.injEq] at hc
      obtain ⟨_, _, _, _, rfl⟩ := hc
      cases hv
    · obtain ⟨y, hy, rfl⟩ := do_some hc; cases hv
    ·
      rename_i px nx t it hargs htys
      have ha : args = #[px, nx] := by cases args; simp at hargs; rw [hargs]
      have ht : argTypes = #[t, it] := by cases argTypes; simp at htys; rw [htys]
      subst ha; subst ht
      split at hc <;> first | (cases hc; done) | skip
      rename_i u hu
      split at hc <;> first | (cases hc; done) | skip
      rename_i k hsz hui
      simp only [Option.bind_eq_bind, Option.bind_eq_some_iff, Option.some.injEq] at hc
      obtain ⟨p', hp, n', hn, rfl⟩ := hc
      have hpv := cX_VR hG he hp
      have hnv := cX_VR hG he hn
      have zero : ∀ q, a.eval px = .pointer q → a.eval nx = .int .i64 0 → v = .str [] → h' = h → EOK P s w o a v h' := by
        intro q h1 h2 h3 h4
        subst h3; subst h4
        refine fin (.string .empty) w s ?_ hr (Step.refl _ _) (by simp only [VR]; exact ⟨_, rfl, rfl⟩)
        have := Lib.run_unsafeString_none (P := P) (w := w) t it o.type q
        simp only [builtin]
        rw [show (#[px, nx] : Array Operand).map a.eval = #[a.eval px, a.eval nx] by simp]
        show ((Builtin.unsafeString_ #[t, it] o.type #[a.eval px, a.eval nx]) >>= fun v => pure (Next.value v)).run P w = _
        rw [h1, h2, Sem.run_bind, this]; rfl
      simp only [evE] at hv
      split at hv
      · rename_i e1 e2
        rw [e1] at hpv; rw [e2] at hnv
        injection hv with hv; injection hv with hv1 hv2
        exact zero none (by simpa only [VR] using hpv) (VR_int hnv) hv1.symm hv2.symm
      · rename_i l off n e1 e2
        rw [e1] at hpv; rw [e2] at hnv
        obtain ⟨b, d, m, h1, h2⟩ := VR_ptr hpv
        have hn2 := VR_int hnv
        split at hv
        · rename_i hn0
          subst hn0
          injection hv with hv; injection hv with hv1 hv2
          exact zero _ h2 hn2 hv1.symm hv2.symm
        · rename_i hn0
          split at hv
          · rename_i hn1
            split at hv
            · rename_i cs t' fz hget
              split at hv
              · rename_i htu
                subst htu
                split at hv
                · rename_i r hsub
                  split at hv
                  · rename_i bs hbs
                    injection hv with hv; injection hv with hv1 hv2
                    subst hv1; subst hv2
                    obtain ⟨c, lo, hi, g1, g2, g3, g4, g5, g6, g7⟩ := hr.obj l b d m _ h1 hget
                    obtain ⟨q1, q2, q3⟩ := sub_some hsub
                    have hv1 : VRs s w r (((((c.toList.drop d).take cs.length).drop off).take n.toNat)) := by
                      rw [q1]; exact VRs_take (VRs_drop g6 off) _
                    obtain ⟨xs, hxs, rfl⟩ := bytesOf_sound hbs hv1
                    have hxl : xs.length = n.toNat := by
                      have := VRs_length hv1
                      rw [hxs] at this
                      simp only [List.length_map] at this
                      omega
                    have hcell : ∀ j x, xs[j]? = some x → w.cell? ⟨b, (d + off) + j, none⟩ = some (.int .u8 x) := by
                      intro j x hj
                      have hlt : j < xs.length := (List.getElem?_eq_some_iff.1 hj).1
                      have : (((((c.toList.drop d).take cs.length).drop off).take n.toNat))[j]? = some (.int .u8 x) := by
                        rw [hxs, List.getElem?_map, hj]; rfl
                      rw [List.getElem?_take, if_pos (by omega), List.getElem?_drop, List.getElem?_take, if_pos (by omega), List.getElem?_drop] at this
                      simp only [World.cell?, g1]
                      simp only [Option.isSome_none, Bool.false_eq_true, if_false]
                      rw [← Array.getElem?_toList, ← this]
                      congr 1; omega
                    have hlb := loadBytes_run (P := P) w xs b (d + off) .empty hcell
                    rw [hxl] at hlb
                    obtain ⟨lo', hi', f1, f2, f3, f4, f5, f6, f7⟩ := freeze_cells w g1 (d + off) n.toNat (by omega)
                    have hkeep : Keep s w (w.freeze ⟨b, d + off, none⟩ n.toNat) := ⟨f5, f6, f7, by rw [f4]; exact Nat.le_refl _, fun k _ hk => f3 k (fun e => hk l d m (by rw [e]; exact h1))⟩
                    obtain ⟨t1, t2⟩ := Rel.turn hr (.cells cs t' (fz.map fun z => max z (off + n.toNat))) h1 (by rw [hget]; rfl) hkeep f4 f3 (fun st => by
                      refine ⟨c, lo', hi', f1, ?_, g3, g4, g5, VRs.mono st hr.apart g6, g7⟩
                      intro z hz
                      obtain ⟨z0, e3, e4⟩ := Option.map_eq_some_iff.1 hz
                      have := g2 z0 e3
                      omega)
                    refine fin (.string (strOfNums xs)) _ s ?_ t1 t2 (by simp only [VR]; exact ⟨_, rfl, by rw [strOfNums_data]; simp⟩)
                    have hcs : P.cellsOf t' = 1 := by
                      simp only [size, Option.map_eq_some_iff] at hsz
                      obtain ⟨inf, i1, i2⟩ := hsz
                      simp [Program.cellsOf, i1, i2]
                    have hsh : w.shape? b = some (t', c.size) := by simp [World.shape?, g1]
                    have hlies := liesAt_at (P := P) hcs (c.size / P.cellsOf t') (d + off) n.toNat (by rw [hcs]; simp; omega)
                    have hdef : Builtin.unsafeString_ #[t, it] o.type #[.pointer (some ⟨b, d + off, none⟩), .int .i64 n] =
                        (do
                          let n ← asInt (.int .i64 n)
                          if n < 0 then runtimePanic (.error "unsafe.String: len out of range")
                          if n > IntKind.i64.max then unsupported (.unsafePointer "String: a length above the largest int")
                          if n = 0 then pure (.string .empty)
                          else if ← variablesAt ⟨b, d + off, none⟩ (← elemOf t) n.toNat then do
                            let s ← loadBytes ⟨b, d + off, none⟩ .empty n.toNat
                            freeze ⟨b, d + off, none⟩ n.toNat
                            pure (.string s)
                          else unsupported (.unsafePointer "String: not so many bytes at ptr")) := rfl
                    simp only [builtin]
                    rw [show (#[px, nx] : Array Operand).map a.eval = #[a.eval px, a.eval nx] by simp]
                    show ((Builtin.unsafeString_ #[t, it] o.type #[a.eval px, a.eval nx]) >>= fun v => pure (Next.value v)).run P w = _
                    rw [h2, hn2, hdef]
                    have hmax : IntKind.i64.max = 9223372036854775807 := rfl
                    have hneg : ¬ n < 0 := by omega
                    have h63 : ¬ (9223372036854775807 : Int) < n := by omega
                    simp [asInt, asIntOf, hmax, h63, hneg, hn0, variablesAt, hsh, elemOf, run_underlying hu, hlies, hlb, strOfNums]
                  · cases hv
                · cases hv
              · cases hv
            · cases hv
          · cases hv
      · cases hv
    · cases hc
theorem e_cvS {o : Oper} {sT dT : TypeId} {x : Operand} (hop : o.op = .convert sT dT x) (hr : Rel s h w) (hG : GlobR s w G) (he : EnvR s w e a) {i : I} (hc : cOp P o.op = some i) {v : AV} {h' : H} (hv : evE U G i e h = some (v, h')) : EOK P s w o a v h' := by
  rw [hop] at hc
  simp only [cOp] at hc
  split at hc
  · obtain ⟨y, hy, rfl⟩ := do_some hc; cases hv
  · obtain ⟨y, hy, rfl⟩ := do_some hc; cases hv
  · split at hc
    · obtain ⟨y, hy, rfl⟩ := do_some hc; cases hv
    · cases hc
  · rename_i el hs hd
    split at hc
    · rename_i hel
      obtain ⟨y, hy, rfl⟩ := do_some hc
      have hx := cX_VR hG he hy
      simp only [evE] at hv
      split at hv
      · rename_i l hl
        rw [hl] at hx
        injection hv with hv; injection hv with hv1 hv2
        subst hv1; subst hv2
        obtain ⟨bs, h1, h2⟩ := VR_str hx
        have hrun := run_bytes_of_string (P := P) w sT dT el bs hs hd hel
        have hge := grownCap_ge w bs.size 0 el
        have hlen := str_len h2
        have hbl : (byteCells bs).length = bs.size := byteCells_length bs
        have hv0 : VRs s w (l.map fun n : Nat => AV.int .u8 n) (byteCells bs) := VRs_byteCells h2
        have hv1 : VRs s w.drew (l.map fun n : Nat => AV.int .u8 n) (byteCells bs) := VRs.mono (Step.drew s w) hr.apart hv0
        have hrow : (bytesRow bs (grownCap w bs.size 0 el)).toList.take (l.map fun n : Nat => AV.int .u8 n).length = byteCells bs := by
          have e1 : (l.map fun n : Nat => AV.int .u8 n).length = (byteCells bs).length := by simp; omega
          rw [e1]
          unfold bytesRow
          have e2 : (bs.data.map fun b => Value.int .u8 b.toNat).toList = byteCells bs := by simp [byteCells]
          first
            | (rw [Array.toList_append, e2]; exact List.take_left' rfl)
            | (simp [byteCells])
        have hsz : l.length ≤ (bytesRow bs (grownCap w bs.size 0 el)).size := by
          have := congrArg List.length hrow
          simp only [List.length_take, List.length_map, Array.length_toList] at this
          omega
        have hcap : (bytesRow bs (grownCap w bs.size 0 el)).size = grownCap w bs.size 0 el := by
          unfold bytesRow
          simp
          have : bs.data.size = bs.size := rfl
          omega
        obtain ⟨g1, g2⟩ := alloc_cells (t := el) (fz := none) hr.drew (c := bytesRow bs (grownCap w bs.size 0 el)) (by rw [hrow]; exact hv1) (by simpa using hsz) (by
          intro x hx
          obtain ⟨_, _, rfl⟩ := List.mem_map.1 hx
          rfl) (bytesRow bs (grownCap w bs.size 0 el)).size ((bytesRow bs (grownCap w bs.size 0 el)).size + 1) (fun z hz => by cases hz)
        refine ⟨.slice (some ⟨w.heap.size, 0, none⟩) bs.size (grownCap w bs.size 0 el), _, _, _, ?_, .inl rfl, g1, (Step.drew s w).trans g2, ?_⟩
        · simp only [execOp, hop, h1, Sem.run_bind, hrun, Result.andThen_ok, Sem.run_pure]
        · simp only [VR]
          refine ⟨_, _, _, _, _, add_self _ _ _, by rw [hlen]; rfl, Nat.le_refl _, .inl ⟨rfl, by omega, fun hh => (by cases hh), ?_⟩⟩
          rw [hcap]; omega
      · cases hv
    · cases hc
  · split at hc
    · obtain ⟨y, hy, rfl⟩ := do_some hc; cases hv
    · cases hc
  · split at hc
    · obtain ⟨y, hy, rfl⟩ := do_some hc; cases hv
    · cases hc
  · cases hc
theorem evE_sound (hsU : s.U = U) {o : Oper} (hr : Rel s h w) (hG : GlobR s w G) (he : EnvR s w e a) {i : I} (hc : cOp P o.op = some i) {v : AV} {h' : H} (hv : evE U G i e h = some (v, h')) : EOK P s w o a v h' := by
  cases hop : o.op with
  | alloc t => exact e_new hop hr hc hv
  | box t x => exact e_box hop hr hG he hc hv
  | buildSlice t n ps => exact e_bsl hop hr hG he hc hv
  | store t x y => exact e_st hop hr hG he hc hv
  | makeMap t r => exact e_mkM hop hr hc hv
  | makeSlice t n c => exact e_mkS hop hr hG he hc hv
  | mapUpdate t m k x => exact e_up (.inl hop) hr hG he hc hv
  | insert t m k x => exact e_up (.inr hop) hr hG he hc hv
  | call c => exact e_call hsU hop hr hG he hc hv
  | convert t u x => exact e_cvS hop hr hG he hc hv
  | makeFunc f x y =>
    rw [hop] at hc
    cases f <;> simp only [cOp] at hc <;> first | (cases hc; done) | skip
    simp only [Option.bind_eq_bind, Option.bind_eq_some_iff, Option.some.injEq] at hc
    obtain ⟨_, _, _, _, rfl⟩ := hc
    cases hv
  | _ =>
    rw [hop] at hc; simp only [cOp] at hc
    repeat' (split at hc)
    all_goals first
      | (cases hc; done)
      | (injection hc with hc; subst hc; cases hv; done)
      | (simp only [Option.bind_eq_bind, Option.bind_eq_some_iff, Option.some.injEq] at hc
         first
           | (obtain ⟨_, _, rfl⟩ := hc; cases hv; done)
           | (obtain ⟨_, _, _, _, rfl⟩ := hc; cases hv; done)
           | (obtain ⟨_, _, _, _, _, _, rfl⟩ := hc; cases hv; done)
           | (obtain ⟨_, _, _, _, _, _, _, _, rfl⟩ := hc; cases hv; done))
end
end Go.Eng
namespace Go.Eng
def X.has (t : Nat) : X → Bool
  | .t n => n == t
  | _ => false
def hasO (t : Nat) : Option X → Bool
  | some x => x.has t
  | none => false
def hasL (t : Nat) : List X → Bool
  | [] => false
  | x :: xs => x.has t || hasL t xs
def hasP (t : Nat) : List (Nat × X) → Bool
  | [] => false
  | (_, x) :: xs => x.has t || hasP t xs
def hasQ (t : Nat) : List (Nat × Nat × X) → Bool
  | [] => false
  | (_, _, x) :: xs => x.has t || hasQ t xs
def I.has (t : Nat) : I → Bool
  | .mv v0 => v0.has t
  | .pick v0 v1 v2 => v0.has t || v1.has t || v2.has t
  | .fad _ v1 => v1.has t
  | .fld _ _ _ v3 => v3.has t
  | .iad _ v1 v2 => v1.has t || v2.has t
  | .iadA _ _ v2 v3 => v2.has t || v3.has t
  | .ixS v0 v1 => v0.has t || v1.has t
  | .ixA _ _ _ v3 v4 => v3.has t || v4.has t
  | .ext v0 _ => v0.has t
  | .sS v0 v1 v2 => v0.has t || hasO t v1 || hasO t v2
  | .sL _ v1 v2 v3 v4 => v1.has t || hasO t v2 || hasO t v3 || hasO t v4
  | .sA _ _ v2 v3 v4 => v2.has t || hasO t v3 || hasO t v4
  | .nck v0 => v0.has t
  | .bld _ v1 => hasQ t v1
  | .bin _ _ v2 v3 => v2.has t || v3.has t
  | .un _ v1 => v1.has t
  | .cvI _ v1 => v1.has t
  | .cvR v0 => v0.has t
  | .cvB v0 => v0.has t
  | .cvS _ v1 => v1.has t
  | .cvP v0 => v0.has t
  | .cvQ _ v1 => v1.has t
  | .mkI _ v1 => v1.has t
  | .mkF _ v1 v2 => hasL t v1 || hasL t v2
  | .len _ v1 => v1.has t
  | .mn v0 => hasL t v0
  | .mx v0 => hasL t v0
  | .ld _ _ v2 => v2.has t
  | .st _ v1 v2 => v1.has t || v2.has t
  | .new _ _ => false
  | .box _ _ v2 => v2.has t
  | .mkS _ _ _ _ v4 v5 => v4.has t || v5.has t
  | .bsl _ _ _ _ v4 => hasP t v4
  | .mkM => false
  | .lk _ _ _ v3 v4 => v3.has t || v4.has t
  | .up _ v1 v2 v3 => v1.has t || v2.has t || v3.has t
  | .del _ v1 v2 => v1.has t || v2.has t
  | .ap _ _ _ v3 v4 => v3.has t || v4.has t
  | .apS _ _ v2 v3 => v2.has t || v3.has t
  | .cp _ v1 v2 => v1.has t || v2.has t
  | .cpS v0 v1 => v0.has t || v1.has t
  | .clr _ _ v2 => v2.has t
  | .sd v0 => v0.has t
  | .us _ v1 v2 => v1.has t || v2.has t
  | .call _ v1 => hasL t v1
  | .callv v0 v1 => v0.has t || hasL t v1
  | .bad => false
variable {G : Nat → AV} {e e' : Env} {h h' : H} {U : List (TypeId × TypeId)}
theorem X.ev_congr {x : X} (hs : ∀ t, x.has t = true → e.get t = e'.get t) : x.ev G e = x.ev G e' := by
  cases x with
  | t n => exact hs n (by simp [X.has])
  | c v => rfl
  | g n => rfl
theorem evO_congr {x : Option X} (hs : ∀ t, hasO t x = true → e.get t = e'.get t) : x.map (X.ev G e) = x.map (X.ev G e') := by
  cases x with
  | none => rfl
  | some x => simp only [Option.map_some, X.ev_congr (G := G) (x := x) hs]
theorem evs_congr : ∀ {xs : List X}, (∀ t, hasL t xs = true → e.get t = e'.get t) → evs G e xs = evs G e' xs
  | [], _ => rfl
  | x :: xs, hs => by
    simp only [evs, X.ev_congr (G := G) (x := x) (fun t h => hs t (by simp [hasL, h])), evs_congr (xs := xs) (fun t h => hs t (by simp [hasL, h]))]
theorem evParts_congr : ∀ {xs : List (Nat × Nat × X)}, (∀ t, hasQ t xs = true → e.get t = e'.get t) → evParts G e xs = evParts G e' xs
  | [], _ => rfl
  | (_, _, x) :: xs, hs => by
    simp only [evParts, X.ev_congr (G := G) (x := x) (fun t h => hs t (by simp [hasQ, h])), evParts_congr (xs := xs) (fun t h => hs t (by simp [hasQ, h]))]
theorem evPartsL_congr (sz : Nat) : ∀ {xs : List (Nat × X)}, (∀ t, hasP t xs = true → e.get t = e'.get t) → evPartsL G e sz xs = evPartsL G e' sz xs
  | [], _ => rfl
  | (_, x) :: xs, hs => by
    simp only [evPartsL, X.ev_congr (G := G) (x := x) (fun t h => hs t (by simp [hasP, h])), evPartsL_congr sz (xs := xs) (fun t h => hs t (by simp [hasP, h]))]
variable {i : I}
theorem evQ_congr (hs : ∀ t, i.has t = true → e.get t = e'.get t) : evQ U G i e h = evQ U G i e' h := by
  cases i with
  | mv v0 => have h0 := X.ev_congr (G := G) (x := v0) (fun t h => hs t (by simp only [I.has, h, Bool.or_true, Bool.true_or])); simp only [evQ, h0]
  | pick v0 v1 v2 => have h0 := X.ev_congr (G := G) (x := v0) (fun t h => hs t (by simp only [I.has, h, Bool.or_true, Bool.true_or])); have h1 := X.ev_congr (G := G) (x := v1) (fun t h => hs t (by simp only [I.has, h, Bool.or_true, Bool.true_or])); have h2 := X.ev_congr (G := G) (x := v2) (fun t h => hs t (by simp only [I.has, h, Bool.or_true, Bool.true_or])); simp only [evQ, h0, h1, h2]
  | fad v0 v1 => have h0 := X.ev_congr (G := G) (x := v1) (fun t h => hs t (by simp only [I.has, h, Bool.or_true, Bool.true_or])); simp only [evQ, h0]
  | fld v0 v1 v2 v3 => have h0 := X.ev_congr (G := G) (x := v3) (fun t h => hs t (by simp only [I.has, h, Bool.or_true, Bool.true_or])); simp only [evQ, h0]
  | iad v0 v1 v2 => have h0 := X.ev_congr (G := G) (x := v1) (fun t h => hs t (by simp only [I.has, h, Bool.or_true, Bool.true_or])); have h1 := X.ev_congr (G := G) (x := v2) (fun t h => hs t (by simp only [I.has, h, Bool.or_true, Bool.true_or])); simp only [evQ, h0, h1]
  | iadA v0 v1 v2 v3 => have h0 := X.ev_congr (G := G) (x := v2) (fun t h => hs t (by simp only [I.has, h, Bool.or_true, Bool.true_or])); have h1 := X.ev_congr (G := G) (x := v3) (fun t h => hs t (by simp only [I.has, h, Bool.or_true, Bool.true_or])); simp only [evQ, h0, h1]
  | ixS v0 v1 => have h0 := X.ev_congr (G := G) (x := v0) (fun t h => hs t (by simp only [I.has, h, Bool.or_true, Bool.true_or])); have h1 := X.ev_congr (G := G) (x := v1) (fun t h => hs t (by simp only [I.has, h, Bool.or_true, Bool.true_or])); simp only [evQ, h0, h1]
  | ixA v0 v1 v2 v3 v4 => have h0 := X.ev_congr (G := G) (x := v3) (fun t h => hs t (by simp only [I.has, h, Bool.or_true, Bool.true_or])); have h1 := X.ev_congr (G := G) (x := v4) (fun t h => hs t (by simp only [I.has, h, Bool.or_true, Bool.true_or])); simp only [evQ, h0, h1]
  | ext v0 v1 => have h0 := X.ev_congr (G := G) (x := v0) (fun t h => hs t (by simp only [I.has, h, Bool.or_true, Bool.true_or])); simp only [evQ, h0]
  | sS v0 v1 v2 => have h0 := X.ev_congr (G := G) (x := v0) (fun t h => hs t (by simp only [I.has, h, Bool.or_true, Bool.true_or])); have h1 := evO_congr (G := G) (x := v1) (fun t h => hs t (by simp only [I.has, h, Bool.or_true, Bool.true_or])); have h2 := evO_congr (G := G) (x := v2) (fun t h => hs t (by simp only [I.has, h, Bool.or_true, Bool.true_or])); simp only [evQ, h0, h1, h2]
  | sL v0 v1 v2 v3 v4 => have h0 := X.ev_congr (G := G) (x := v1) (fun t h => hs t (by simp only [I.has, h, Bool.or_true, Bool.true_or])); have h1 := evO_congr (G := G) (x := v2) (fun t h => hs t (by simp only [I.has, h, Bool.or_true, Bool.true_or])); have h2 := evO_congr (G := G) (x := v3) (fun t h => hs t (by simp only [I.has, h, Bool.or_true, Bool.true_or])); have h3 := evO_congr (G := G) (x := v4) (fun t h => hs t (by simp only [I.has, h, Bool.or_true, Bool.true_or])); simp only [evQ, h0, h1, h2, h3]
  | sA v0 v1 v2 v3 v4 => have h0 := X.ev_congr (G := G) (x := v2) (fun t h => hs t (by simp only [I.has, h, Bool.or_true, Bool.true_or])); have h1 := evO_congr (G := G) (x := v3) (fun t h => hs t (by simp only [I.has, h, Bool.or_true, Bool.true_or])); have h2 := evO_congr (G := G) (x := v4) (fun t h => hs t (by simp only [I.has, h, Bool.or_true, Bool.true_or])); simp only [evQ, h0, h1, h2]
  | nck v0 => have h0 := X.ev_congr (G := G) (x := v0) (fun t h => hs t (by simp only [I.has, h, Bool.or_true, Bool.true_or])); simp only [evQ, h0]
  | bld v0 v1 => have h0 := evParts_congr (G := G) (xs := v1) (fun t h => hs t (by simp only [I.has, h, Bool.or_true, Bool.true_or])); simp only [evQ, h0]
  | bin v0 v1 v2 v3 => have h0 := X.ev_congr (G := G) (x := v2) (fun t h => hs t (by simp only [I.has, h, Bool.or_true, Bool.true_or])); have h1 := X.ev_congr (G := G) (x := v3) (fun t h => hs t (by simp only [I.has, h, Bool.or_true, Bool.true_or])); simp only [evQ, h0, h1]
  | un v0 v1 => have h0 := X.ev_congr (G := G) (x := v1) (fun t h => hs t (by simp only [I.has, h, Bool.or_true, Bool.true_or])); simp only [evQ, h0]
  | cvI v0 v1 => have h0 := X.ev_congr (G := G) (x := v1) (fun t h => hs t (by simp only [I.has, h, Bool.or_true, Bool.true_or])); simp only [evQ, h0]
  | cvR v0 => have h0 := X.ev_congr (G := G) (x := v0) (fun t h => hs t (by simp only [I.has, h, Bool.or_true, Bool.true_or])); simp only [evQ, h0]
  | cvB v0 => have h0 := X.ev_congr (G := G) (x := v0) (fun t h => hs t (by simp only [I.has, h, Bool.or_true, Bool.true_or])); simp only [evQ, h0]
  | cvS v0 v1 => have h0 := X.ev_congr (G := G) (x := v1) (fun t h => hs t (by simp only [I.has, h, Bool.or_true, Bool.true_or])); simp only [evQ, h0]
  | cvP v0 => have h0 := X.ev_congr (G := G) (x := v0) (fun t h => hs t (by simp only [I.has, h, Bool.or_true, Bool.true_or])); simp only [evQ, h0]
  | cvQ v0 v1 => have h0 := X.ev_congr (G := G) (x := v1) (fun t h => hs t (by simp only [I.has, h, Bool.or_true, Bool.true_or])); simp only [evQ, h0]
  | mkI v0 v1 => have h0 := X.ev_congr (G := G) (x := v1) (fun t h => hs t (by simp only [I.has, h, Bool.or_true, Bool.true_or])); simp only [evQ, h0]
  | mkF v0 v1 v2 => have h0 := evs_congr (G := G) (xs := v1) (fun t h => hs t (by simp only [I.has, h, Bool.or_true, Bool.true_or])); have h1 := evs_congr (G := G) (xs := v2) (fun t h => hs t (by simp only [I.has, h, Bool.or_true, Bool.true_or])); simp only [evQ, h0, h1]
  | len v0 v1 => have h0 := X.ev_congr (G := G) (x := v1) (fun t h => hs t (by simp only [I.has, h, Bool.or_true, Bool.true_or])); simp only [evQ, h0]
  | mn v0 => have h0 := evs_congr (G := G) (xs := v0) (fun t h => hs t (by simp only [I.has, h, Bool.or_true, Bool.true_or])); simp only [evQ, h0]
  | mx v0 => have h0 := evs_congr (G := G) (xs := v0) (fun t h => hs t (by simp only [I.has, h, Bool.or_true, Bool.true_or])); simp only [evQ, h0]
  | ld v0 v1 v2 => have h0 := X.ev_congr (G := G) (x := v2) (fun t h => hs t (by simp only [I.has, h, Bool.or_true, Bool.true_or])); simp only [evQ, h0]
  | st v0 v1 v2 => have h0 := X.ev_congr (G := G) (x := v1) (fun t h => hs t (by simp only [I.has, h, Bool.or_true, Bool.true_or])); have h1 := X.ev_congr (G := G) (x := v2) (fun t h => hs t (by simp only [I.has, h, Bool.or_true, Bool.true_or])); simp only [evQ, h0, h1]
  | new v0 v1 => rfl
  | box v0 v1 v2 => have h0 := X.ev_congr (G := G) (x := v2) (fun t h => hs t (by simp only [I.has, h, Bool.or_true, Bool.true_or])); simp only [evQ, h0]
  | mkS v0 v1 v2 v3 v4 v5 => have h0 := X.ev_congr (G := G) (x := v4) (fun t h => hs t (by simp only [I.has, h, Bool.or_true, Bool.true_or])); have h1 := X.ev_congr (G := G) (x := v5) (fun t h => hs t (by simp only [I.has, h, Bool.or_true, Bool.true_or])); simp only [evQ, h0, h1]
  | bsl v0 v1 v2 v3 v4 => have h0 := evPartsL_congr (G := G) v0 (xs := v4) (fun t h => hs t (by simp only [I.has, h, Bool.or_true, Bool.true_or])); simp only [evQ, h0]
  | mkM => rfl
  | lk v0 v1 v2 v3 v4 => have h0 := X.ev_congr (G := G) (x := v3) (fun t h => hs t (by simp only [I.has, h, Bool.or_true, Bool.true_or])); have h1 := X.ev_congr (G := G) (x := v4) (fun t h => hs t (by simp only [I.has, h, Bool.or_true, Bool.true_or])); simp only [evQ, h0, h1]
  | up v0 v1 v2 v3 => have h0 := X.ev_congr (G := G) (x := v1) (fun t h => hs t (by simp only [I.has, h, Bool.or_true, Bool.true_or])); have h1 := X.ev_congr (G := G) (x := v2) (fun t h => hs t (by simp only [I.has, h, Bool.or_true, Bool.true_or])); have h2 := X.ev_congr (G := G) (x := v3) (fun t h => hs t (by simp only [I.has, h, Bool.or_true, Bool.true_or])); simp only [evQ, h0, h1, h2]
  | del v0 v1 v2 => have h0 := X.ev_congr (G := G) (x := v1) (fun t h => hs t (by simp only [I.has, h, Bool.or_true, Bool.true_or])); have h1 := X.ev_congr (G := G) (x := v2) (fun t h => hs t (by simp only [I.has, h, Bool.or_true, Bool.true_or])); simp only [evQ, h0, h1]
  | ap v0 v1 v2 v3 v4 => have h0 := X.ev_congr (G := G) (x := v3) (fun t h => hs t (by simp only [I.has, h, Bool.or_true, Bool.true_or])); have h1 := X.ev_congr (G := G) (x := v4) (fun t h => hs t (by simp only [I.has, h, Bool.or_true, Bool.true_or])); simp only [evQ, h0, h1]
  | apS v0 v1 v2 v3 => have h0 := X.ev_congr (G := G) (x := v2) (fun t h => hs t (by simp only [I.has, h, Bool.or_true, Bool.true_or])); have h1 := X.ev_congr (G := G) (x := v3) (fun t h => hs t (by simp only [I.has, h, Bool.or_true, Bool.true_or])); simp only [evQ, h0, h1]
  | cp v0 v1 v2 => have h0 := X.ev_congr (G := G) (x := v1) (fun t h => hs t (by simp only [I.has, h, Bool.or_true, Bool.true_or])); have h1 := X.ev_congr (G := G) (x := v2) (fun t h => hs t (by simp only [I.has, h, Bool.or_true, Bool.true_or])); simp only [evQ, h0, h1]
  | cpS v0 v1 => have h0 := X.ev_congr (G := G) (x := v0) (fun t h => hs t (by simp only [I.has, h, Bool.or_true, Bool.true_or])); have h1 := X.ev_congr (G := G) (x := v1) (fun t h => hs t (by simp only [I.has, h, Bool.or_true, Bool.true_or])); simp only [evQ, h0, h1]
  | clr v0 v1 v2 => have h0 := X.ev_congr (G := G) (x := v2) (fun t h => hs t (by simp only [I.has, h, Bool.or_true, Bool.true_or])); simp only [evQ, h0]
  | sd v0 => have h0 := X.ev_congr (G := G) (x := v0) (fun t h => hs t (by simp only [I.has, h, Bool.or_true, Bool.true_or])); simp only [evQ, h0]
  | us v0 v1 v2 => have h0 := X.ev_congr (G := G) (x := v1) (fun t h => hs t (by simp only [I.has, h, Bool.or_true, Bool.true_or])); have h1 := X.ev_congr (G := G) (x := v2) (fun t h => hs t (by simp only [I.has, h, Bool.or_true, Bool.true_or])); simp only [evQ, h0, h1]
  | call v0 v1 => have h0 := evs_congr (G := G) (xs := v1) (fun t h => hs t (by simp only [I.has, h, Bool.or_true, Bool.true_or])); simp only [evQ, h0]
  | callv v0 v1 => have h0 := X.ev_congr (G := G) (x := v0) (fun t h => hs t (by simp only [I.has, h, Bool.or_true, Bool.true_or])); have h1 := evs_congr (G := G) (xs := v1) (fun t h => hs t (by simp only [I.has, h, Bool.or_true, Bool.true_or])); simp only [evQ, h0, h1]
  | bad => rfl
theorem evE_congr (hs : ∀ t, i.has t = true → e.get t = e'.get t) : evE U G i e h = evE U G i e' h := by
  cases i with
  | mv v0 => have h0 := X.ev_congr (G := G) (x := v0) (fun t h => hs t (by simp only [I.has, h, Bool.or_true, Bool.true_or])); simp only [evE, h0]
  | pick v0 v1 v2 => have h0 := X.ev_congr (G := G) (x := v0) (fun t h => hs t (by simp only [I.has, h, Bool.or_true, Bool.true_or])); have h1 := X.ev_congr (G := G) (x := v1) (fun t h => hs t (by simp only [I.has, h, Bool.or_true, Bool.true_or])); have h2 := X.ev_congr (G := G) (x := v2) (fun t h => hs t (by simp only [I.has, h, Bool.or_true, Bool.true_or])); simp only [evE, h0, h1, h2]
  | fad v0 v1 => have h0 := X.ev_congr (G := G) (x := v1) (fun t h => hs t (by simp only [I.has, h, Bool.or_true, Bool.true_or])); simp only [evE, h0]
  | fld v0 v1 v2 v3 => have h0 := X.ev_congr (G := G) (x := v3) (fun t h => hs t (by simp only [I.has, h, Bool.or_true, Bool.true_or])); simp only [evE, h0]
  | iad v0 v1 v2 => have h0 := X.ev_congr (G := G) (x := v1) (fun t h => hs t (by simp only [I.has, h, Bool.or_true, Bool.true_or])); have h1 := X.ev_congr (G := G) (x := v2) (fun t h => hs t (by simp only [I.has, h, Bool.or_true, Bool.true_or])); simp only [evE, h0, h1]
  | iadA v0 v1 v2 v3 => have h0 := X.ev_congr (G := G) (x := v2) (fun t h => hs t (by simp only [I.has, h, Bool.or_true, Bool.true_or])); have h1 := X.ev_congr (G := G) (x := v3) (fun t h => hs t (by simp only [I.has, h, Bool.or_true, Bool.true_or])); simp only [evE, h0, h1]
  | ixS v0 v1 => have h0 := X.ev_congr (G := G) (x := v0) (fun t h => hs t (by simp only [I.has, h, Bool.or_true, Bool.true_or])); have h1 := X.ev_congr (G := G) (x := v1) (fun t h => hs t (by simp only [I.has, h, Bool.or_true, Bool.true_or])); simp only [evE, h0, h1]
  | ixA v0 v1 v2 v3 v4 => have h0 := X.ev_congr (G := G) (x := v3) (fun t h => hs t (by simp only [I.has, h, Bool.or_true, Bool.true_or])); have h1 := X.ev_congr (G := G) (x := v4) (fun t h => hs t (by simp only [I.has, h, Bool.or_true, Bool.true_or])); simp only [evE, h0, h1]
  | ext v0 v1 => have h0 := X.ev_congr (G := G) (x := v0) (fun t h => hs t (by simp only [I.has, h, Bool.or_true, Bool.true_or])); simp only [evE, h0]
  | sS v0 v1 v2 => have h0 := X.ev_congr (G := G) (x := v0) (fun t h => hs t (by simp only [I.has, h, Bool.or_true, Bool.true_or])); have h1 := evO_congr (G := G) (x := v1) (fun t h => hs t (by simp only [I.has, h, Bool.or_true, Bool.true_or])); have h2 := evO_congr (G := G) (x := v2) (fun t h => hs t (by simp only [I.has, h, Bool.or_true, Bool.true_or])); simp only [evE, h0, h1, h2]
  | sL v0 v1 v2 v3 v4 => have h0 := X.ev_congr (G := G) (x := v1) (fun t h => hs t (by simp only [I.has, h, Bool.or_true, Bool.true_or])); have h1 := evO_congr (G := G) (x := v2) (fun t h => hs t (by simp only [I.has, h, Bool.or_true, Bool.true_or])); have h2 := evO_congr (G := G) (x := v3) (fun t h => hs t (by simp only [I.has, h, Bool.or_true, Bool.true_or])); have h3 := evO_congr (G := G) (x := v4) (fun t h => hs t (by simp only [I.has, h, Bool.or_true, Bool.true_or])); simp only [evE, h0, h1, h2, h3]
  | sA v0 v1 v2 v3 v4 => have h0 := X.ev_congr (G := G) (x := v2) (fun t h => hs t (by simp only [I.has, h, Bool.or_true, Bool.true_or])); have h1 := evO_congr (G := G) (x := v3) (fun t h => hs t (by simp only [I.has, h, Bool.or_true, Bool.true_or])); have h2 := evO_congr (G := G) (x := v4) (fun t h => hs t (by simp only [I.has, h, Bool.or_true, Bool.true_or])); simp only [evE, h0, h1, h2]
  | nck v0 => have h0 := X.ev_congr (G := G) (x := v0) (fun t h => hs t (by simp only [I.has, h, Bool.or_true, Bool.true_or])); simp only [evE, h0]
  | bld v0 v1 => have h0 := evParts_congr (G := G) (xs := v1) (fun t h => hs t (by simp only [I.has, h, Bool.or_true, Bool.true_or])); simp only [evE, h0]
  | bin v0 v1 v2 v3 => have h0 := X.ev_congr (G := G) (x := v2) (fun t h => hs t (by simp only [I.has, h, Bool.or_true, Bool.true_or])); have h1 := X.ev_congr (G := G) (x := v3) (fun t h => hs t (by simp only [I.has, h, Bool.or_true, Bool.true_or])); simp only [evE, h0, h1]
  | un v0 v1 => have h0 := X.ev_congr (G := G) (x := v1) (fun t h => hs t (by simp only [I.has, h, Bool.or_true, Bool.true_or])); simp only [evE, h0]
  | cvI v0 v1 => have h0 := X.ev_congr (G := G) (x := v1) (fun t h => hs t (by simp only [I.has, h, Bool.or_true, Bool.true_or])); simp only [evE, h0]
  | cvR v0 => have h0 := X.ev_congr (G := G) (x := v0) (fun t h => hs t (by simp only [I.has, h, Bool.or_true, Bool.true_or])); simp only [evE, h0]
  | cvB v0 => have h0 := X.ev_congr (G := G) (x := v0) (fun t h => hs t (by simp only [I.has, h, Bool.or_true, Bool.true_or])); simp only [evE, h0]
  | cvS v0 v1 => have h0 := X.ev_congr (G := G) (x := v1) (fun t h => hs t (by simp only [I.has, h, Bool.or_true, Bool.true_or])); simp only [evE, h0]
  | cvP v0 => have h0 := X.ev_congr (G := G) (x := v0) (fun t h => hs t (by simp only [I.has, h, Bool.or_true, Bool.true_or])); simp only [evE, h0]
  | cvQ v0 v1 => have h0 := X.ev_congr (G := G) (x := v1) (fun t h => hs t (by simp only [I.has, h, Bool.or_true, Bool.true_or])); simp only [evE, h0]
  | mkI v0 v1 => have h0 := X.ev_congr (G := G) (x := v1) (fun t h => hs t (by simp only [I.has, h, Bool.or_true, Bool.true_or])); simp only [evE, h0]
  | mkF v0 v1 v2 => have h0 := evs_congr (G := G) (xs := v1) (fun t h => hs t (by simp only [I.has, h, Bool.or_true, Bool.true_or])); have h1 := evs_congr (G := G) (xs := v2) (fun t h => hs t (by simp only [I.has, h, Bool.or_true, Bool.true_or])); simp only [evE, h0, h1]
  | len v0 v1 => have h0 := X.ev_congr (G := G) (x := v1) (fun t h => hs t (by simp only [I.has, h, Bool.or_true, Bool.true_or])); simp only [evE, h0]
  | mn v0 => have h0 := evs_congr (G := G) (xs := v0) (fun t h => hs t (by simp only [I.has, h, Bool.or_true, Bool.true_or])); simp only [evE, h0]
  | mx v0 => have h0 := evs_congr (G := G) (xs := v0) (fun t h => hs t (by simp only [I.has, h, Bool.or_true, Bool.true_or])); simp only [evE, h0]
  | ld v0 v1 v2 => have h0 := X.ev_congr (G := G) (x := v2) (fun t h => hs t (by simp only [I.has, h, Bool.or_true, Bool.true_or])); simp only [evE, h0]
  | st v0 v1 v2 => have h0 := X.ev_congr (G := G) (x := v1) (fun t h => hs t (by simp only [I.has, h, Bool.or_true, Bool.true_or])); have h1 := X.ev_congr (G := G) (x := v2) (fun t h => hs t (by simp only [I.has, h, Bool.or_true, Bool.true_or])); simp only [evE, h0, h1]
  | new v0 v1 => rfl
  | box v0 v1 v2 => have h0 := X.ev_congr (G := G) (x := v2) (fun t h => hs t (by simp only [I.has, h, Bool.or_true, Bool.true_or])); simp only [evE, h0]
  | mkS v0 v1 v2 v3 v4 v5 => have h0 := X.ev_congr (G := G) (x := v4) (fun t h => hs t (by simp only [I.has, h, Bool.or_true, Bool.true_or])); have h1 := X.ev_congr (G := G) (x := v5) (fun t h => hs t (by simp only [I.has, h, Bool.or_true, Bool.true_or])); simp only [evE, h0, h1]
  | bsl v0 v1 v2 v3 v4 => have h0 := evPartsL_congr (G := G) v0 (xs := v4) (fun t h => hs t (by simp only [I.has, h, Bool.or_true, Bool.true_or])); simp only [evE, h0]
  | mkM => rfl
  | lk v0 v1 v2 v3 v4 => have h0 := X.ev_congr (G := G) (x := v3) (fun t h => hs t (by simp only [I.has, h, Bool.or_true, Bool.true_or])); have h1 := X.ev_congr (G := G) (x := v4) (fun t h => hs t (by simp only [I.has, h, Bool.or_true, Bool.true_or])); simp only [evE, h0, h1]
  | up v0 v1 v2 v3 => have h0 := X.ev_congr (G := G) (x := v1) (fun t h => hs t (by simp only [I.has, h, Bool.or_true, Bool.true_or])); have h1 := X.ev_congr (G := G) (x := v2) (fun t h => hs t (by simp only [I.has, h, Bool.or_true, Bool.true_or])); have h2 := X.ev_congr (G := G) (x := v3) (fun t h => hs t (by simp only [I.has, h, Bool.or_true, Bool.true_or])); simp only [evE, h0, h1, h2]
  | del v0 v1 v2 => have h0 := X.ev_congr (G := G) (x := v1) (fun t h => hs t (by simp only [I.has, h, Bool.or_true, Bool.true_or])); have h1 := X.ev_congr (G := G) (x := v2) (fun t h => hs t (by simp only [I.has, h, Bool.or_true, Bool.true_or])); simp only [evE, h0, h1]
  | ap v0 v1 v2 v3 v4 => have h0 := X.ev_congr (G := G) (x := v3) (fun t h => hs t (by simp only [I.has, h, Bool.or_true, Bool.true_or])); have h1 := X.ev_congr (G := G) (x := v4) (fun t h => hs t (by simp only [I.has, h, Bool.or_true, Bool.true_or])); simp only [evE, h0, h1]
  | apS v0 v1 v2 v3 => have h0 := X.ev_congr (G := G) (x := v2) (fun t h => hs t (by simp only [I.has, h, Bool.or_true, Bool.true_or])); have h1 := X.ev_congr (G := G) (x := v3) (fun t h => hs t (by simp only [I.has, h, Bool.or_true, Bool.true_or])); simp only [evE, h0, h1]
  | cp v0 v1 v2 => have h0 := X.ev_congr (G := G) (x := v1) (fun t h => hs t (by simp only [I.has, h, Bool.or_true, Bool.true_or])); have h1 := X.ev_congr (G := G) (x := v2) (fun t h => hs t (by simp only [I.has, h, Bool.or_true, Bool.true_or])); simp only [evE, h0, h1]
  | cpS v0 v1 => have h0 := X.ev_congr (G := G) (x := v0) (fun t h => hs t (by simp only [I.has, h, Bool.or_true, Bool.true_or])); have h1 := X.ev_congr (G := G) (x := v1) (fun t h => hs t (by simp only [I.has, h, Bool.or_true, Bool.true_or])); simp only [evE, h0, h1]
  | clr v0 v1 v2 => have h0 := X.ev_congr (G := G) (x := v2) (fun t h => hs t (by simp only [I.has, h, Bool.or_true, Bool.true_or])); simp only [evE, h0]
  | sd v0 => have h0 := X.ev_congr (G := G) (x := v0) (fun t h => hs t (by simp only [I.has, h, Bool.or_true, Bool.true_or])); simp only [evE, h0]
  | us v0 v1 v2 => have h0 := X.ev_congr (G := G) (x := v1) (fun t h => hs t (by simp only [I.has, h, Bool.or_true, Bool.true_or])); have h1 := X.ev_congr (G := G) (x := v2) (fun t h => hs t (by simp only [I.has, h, Bool.or_true, Bool.true_or])); simp only [evE, h0, h1]
  | call v0 v1 => have h0 := evs_congr (G := G) (xs := v1) (fun t h => hs t (by simp only [I.has, h, Bool.or_true, Bool.true_or])); simp only [evE, h0]
  | callv v0 v1 => have h0 := X.ev_congr (G := G) (x := v0) (fun t h => hs t (by simp only [I.has, h, Bool.or_true, Bool.true_or])); have h1 := evs_congr (G := G) (xs := v1) (fun t h => hs t (by simp only [I.has, h, Bool.or_true, Bool.true_or])); simp only [evE, h0, h1]
  | bad => rfl
theorem evQ_pure (hr : i.reads = false) (hn : i.acts = false) : evQ U G i e h = evQ U G i e h' := by
  cases i <;> first | rfl | (cases hr; done) | (cases hn; done)
end Go.Eng
namespace Go.Eng
abbrev CC := FuncId → List AV → H → (AV → H → Prop) → Prop
def gd (o : O) (e : Env) : Option Bool :=
  match o.g with
  | none => some true
  | some (d, b) => match e.get d with
    | .bool c => some (c == b)
    | .tup _ => some false
    | _ => none
def qv (U : List (TypeId × TypeId)) (G : Nat → AV) (o : O) (e : Env) (h : H) : Option AV :=
  match gd o e with
  | none => none
  | some false => some (.tup [])
  | some true => evQ U G o.i e h
def callOf (G : Nat → AV) (e : Env) : I → Option (FuncId × List AV)
  | .call f xs => some (f, evs G e xs)
  | .callv x xs => match x.ev G e with
    | .fn f a b => some (f, a ++ evs G e xs ++ b)
    | _ => none
  | _ => none
def act (C : CC) (U : List (TypeId × TypeId)) (G : Nat → AV) (o : O) (e : Env) (h : H) (K : AV → H → Prop) : Prop :=
  match gd o e with
  | none => False
  | some false => K (.tup []) h
  | some true => match callOf G e o.i with
    | some (f, xs) => C f xs h K
    | none => match evE U G o.i e h with
      | some (v, h') => K v h'
      | none => False
def rP (C : CC) (U : List (TypeId × TypeId)) (G : Nat → AV) : List O → Env → H → (Env → H → Prop) → Prop
  | [], e, h, Φ => Φ e h
  | o :: l, e, h, Φ =>
    if o.i.acts || o.i.news then act C U G o e h fun v h' => rP C U G l (e.put o.d v) h' Φ
    else match qv U G o e h with
      | some v => rP C U G l (e.put o.d v) h Φ
      | none => False
structure Pd where
  i : Nat
  o : O
  e : Env
  v : AV
def okAt (U : List (TypeId × TypeId)) (G : Nat → AV) (h : H) (p : Pd) : Prop :=
  match p.o.i with
  | .new z t => match p.v with
    | .ptr l 0 => h.get l = some (.cells z t (some 0))
    | _ => False
  | _ => qv U G p.o p.e h = some p.v
def okAll (U : List (TypeId × TypeId)) (G : Nat → AV) (h : H) (m : Nat) : List Pd → Prop
  | [] => True
  | p :: ps => (m.testBit p.i = true ∨ okAt U G h p) ∧ okAll U G h m ps
def still (m : Nat) : List Pd → List Pd
  | [] => []
  | p :: ps => if m.testBit p.i then still m ps else p :: still m ps
def rD (C : CC) (U : List (TypeId × TypeId)) (G : Nat → AV) (base : Nat) : List (Nat × O × Nat) → List Pd → Env → H → (Env → H → Prop) → Prop
  | [], _, e, h, Φ => Φ e h
  | (i, o, m) :: l, ps, e, h, Φ =>
    if o.i.acts then act C U G o e h fun v h' => okAll U G h' m ps ∧ rD C U G base l (still m ps) (e.put o.d v) h' Φ
    else if o.i.news then okAt U G h ⟨i, o, e, .ptr (base + i) 0⟩ ∧ rD C U G base l (⟨i, o, e, .ptr (base + i) 0⟩ :: ps) (e.put o.d (.ptr (base + i) 0)) h Φ
    else match qv U G o e h with
      | some v => rD C U G base l (if o.i.reads then ⟨i, o, e, v⟩ :: ps else ps) (e.put o.d v) h Φ
      | none => False
def newsIn : List (Nat × O × Nat) → Bool
  | [] => false
  | (_, o, _) :: l => o.i.news || newsIn l
def ahead (base : Nat) : List (Nat × O × Nat) → H → H
  | [], h => h
  | (i, o, _) :: l, h => match o.i with
    | .new z t => (ahead base l h).set (base + i) (.cells z t (some 0))
    | _ => ahead base l h
def rDs (C : CC) (U : List (TypeId × TypeId)) (G : Nat → AV) (l : List (Nat × O × Nat)) (e : Env) (h : H) (Φ : Env → H → Prop) : Prop :=
  if newsIn l then rD C U G h.next l [] e (ahead h.next l ⟨h.next + l.length, h.t⟩) Φ else rD C U G h.next l [] e h Φ
def W (C : CC) (U : List (TypeId × TypeId)) (G : Nat → AV) : S → Env → H → (Exit → Env → H → Prop) → Prop
  | .skip, e, h, Φ => Φ .normal e h
  | .reg ops live, e, h, Φ => rP C U G ops e h fun e h => Φ .normal (e.keep live) h
  | .regD ops live, e, h, Φ => rDs C U G ops e h fun e h => Φ .normal (e.keep live) h
  | .seq a b, e, h, Φ => W C U G a e h fun x e h => match x with
    | .normal => W C U G b e h Φ
    | x => Φ x e h
  | .cond c a b, e, h, Φ => match c.ev G e with
    | .bool true => W C U G a e h Φ
    | .bool false => W C U G b e h Φ
    | _ => False
  | .block id b, e, h, Φ => W C U G b e h fun x e h => match x with
    | .exit i => if i = id then Φ .normal e h else Φ (.exit i) e h
    | x => Φ x e h
  | .loop b, e, h, Φ => ∃ n : Nat, (Nat.rec (motive := fun _ => Env → H → Prop) (fun _ _ => False) (fun _ L e h => W C U G b e h fun x e h => match x with
    | .normal => L e h
    | x => Φ x e h) n) e h
  | .exit id, e, h, Φ => Φ (.exit id) e h
  | .ret, e, h, Φ => Φ .ret e h
  | .bad, _, _, _ => False
def Callee (P : Program) (f : FuncId) (vs : Array Value) (w : World) (R : Value → World → Prop) : Prop :=
  match (callFunc f vs).run P w with
  | .ok (.value r) w' => R r w'
  | .ok (.enter f' args) w' => Calls P f' args w' fun
    | .returned r, w'' => R r w''
    | _, _ => False
  | _ => False
def Spec (P : Program) (U : List (TypeId × TypeId)) (G : Nat → AV) (f : FuncId) (xs : List AV) (h : H) (Ψ : AV → H → Prop) : Prop :=
  ∀ s w vs, s.U = U → Rel s h w → GlobR s w G → VRs s w xs vs.toList →
    Callee P f vs w fun r w' => ∃ v h' s', Ψ v h' ∧ Rel s' h' w' ∧ Step s w s' w' ∧ VR s' w' v r
theorem Callee.mono {P : Program} {f : FuncId} {vs : Array Value} {w : World} {R R' : Value → World → Prop} (h : Callee P f vs w R) (hr : ∀ r w', R r w' → R' r w') : Callee P f vs w R' := by
  unfold Callee at *
  split
  · simp only [*] at h; exact hr _ _ h
  · simp only [*] at h
    exact Calls.mono h fun en w'' he => by
      cases en <;> first | exact hr _ _ he | exact he
  · rename_i h1 h2
    split at h
    · rename_i r w' e; exact absurd e (h1 r w')
    · rename_i f' a w' e; exact absurd e (h2 f' a w')
    · exact h
theorem GlobR.mono' {s s' : St} {w w' : World} {G : Nat → AV} (h : GlobR s w G) (k : Mono s w s' w') (hap : ∀ l b d m, s.ρ l = some (b, d, m) → ¬ s.F b) : GlobR s' w' G := by
  refine ⟨fun g => VR.mono' k hap (h.val g), fun g cs hg => ?_⟩
  have hv := h.val g
  rw [hg] at hv
  simp only [VR] at hv
  obtain ⟨a, rs, h1, _, _, h4, h5, _⟩ := hv
  injection h1 with h1; injection h1 with h1; subst h1
  rw [k.keep.block g h5 fun l d m e => hap l _ d m e h4]
  exact h.whole g cs hg
theorem GlobR.mono {s s' : St} {w w' : World} {G : Nat → AV} (h : GlobR s w G) (k : Step s w s' w') (hap : ∀ l b d m, s.ρ l = some (b, d, m) → ¬ s.F b) : GlobR s' w' G := h.mono' k.toMono hap
theorem EnvR.mono {s s' : St} {w w' : World} {e : Env} {a : Act} (h : EnvR s w e a) (k : Step s w s' w') (hap : ∀ l b d m, s.ρ l = some (b, d, m) → ¬ s.F b) : EnvR s' w' e a := fun t => VR.mono k hap (h t)
theorem get_put (e : Env) (d : Option Nat) (v : AV) (t : Nat) : (e.put d v).get t = if d = some t then v else e.get t := by
  cases d with
  | none => simp [Env.put]
  | some d => simp only [Env.put, Env.get_cons, Option.some.injEq]
theorem get_keep (e : Env) (t : Nat) : ∀ l : List Nat, (e.keep l).get t = if t ∈ l then e.get t else .any
  | [] => by simp [Env.keep, Env.get]
  | k :: l => by
    simp only [Env.keep, Env.get_cons, List.mem_cons]
    by_cases h : k = t
    · subst h; simp
    · rw [if_neg h, get_keep e t l]
      have h' : ¬ t = k := fun e => h e.symm
      simp [h']
theorem EnvR.keep {s : St} {w : World} {e : Env} {a : Act} (h : EnvR s w e a) (l : List Nat) : EnvR s w (e.keep l) a := by
  intro t
  rw [get_keep]
  split
  · exact h t
  · simp only [VR]
theorem EnvR.put {s : St} {w : World} {e : Env} {a : Act} (h : EnvR s w e a) {d : Option Nat} {v : AV} {r : Value} (hv : VR s w v r) (hd : dstOk a.tmps.size d = true) : EnvR s w (e.put d v) (a.put d r) := by
  intro t
  rw [get_put]
  cases d with
  | none => simpa [Act.put] using h t
  | some d =>
    simp only [dstOk, decide_eq_true_eq] at hd
    simp only [Act.put, Option.some.injEq]
    by_cases he : d = t
    · subst he
      rw [if_pos rfl]
      have : (a.tmps.setIfInBounds d r).getD d undef = r := by simp [hd]
      rw [this]; exact hv
    · rw [if_neg he]
      have : (a.tmps.setIfInBounds d r).getD t undef = a.tmps.getD t undef := by
        simp only [Array.getD_eq_getD_getElem?, Array.getElem?_setIfInBounds_ne he]
      rw [this]; exact h t
theorem put_size (a : Act) (d : Option Nat) (r : Value) : (a.put d r).tmps.size = a.tmps.size := by cases d <;> simp [Act.put]
theorem put_defers (a : Act) (d : Option Nat) (r : Value) : (a.put d r).defers = a.defers := by cases d <;> simp [Act.put]
end Go.Eng
