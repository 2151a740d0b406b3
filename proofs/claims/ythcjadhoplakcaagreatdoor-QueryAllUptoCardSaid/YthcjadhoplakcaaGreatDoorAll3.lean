/- The law QueryAll of package grommetlaw24 answers true and turns no argument, for all arguments that are together of bulk at most 1048576; condition: the listed package variables start as the program's text lays them. (part 3.) -/
import Derived.Test.YthcjadhoplakcaaGreatDoorAll2
import Derived.Great.FillDense
import Derived.Laws.Tables
set_option linter.unusedSimpArgs false
set_option linter.unusedVariables false
namespace Go.Eng
section
variable {P : Program} {s : St} {h : H} {w : World} {G : Nat → AV} {e : Env} {a : Act} {U : List (TypeId × TypeId)}
def PR (s : St) (w : World) (place : Nat → Option (Nat × Nat)) : List (Nat × Nat × AV) → List (Nat × Value) → Prop
  | [], l => l = []
  | (off, n, v) :: r, l => ∃ i x l', l = (i, x) :: l' ∧ place i = some (off, n) ∧ VR s w v x ∧ PR s w place r l'
theorem set_toList (off : Nat) (l : List Value) (cs : Array Value) (hl : off + l.length ≤ cs.size) :
    ((l.zipIdx 0).foldl (fun cs (x : Value × Nat) => cs.setIfInBounds (off + x.2) x.1) cs).toList = cs.toList.take off ++ l ++ cs.toList.drop (off + l.length) := by
  obtain ⟨h1, h2⟩ := Great.foldl_set off l 0 cs
  apply List.ext_getElem?
  intro k
  rw [Array.getElem?_toList, h2 k]
  by_cases hk : k < off
  · rw [if_neg (by omega), List.append_assoc, List.getElem?_append_left (by simp; omega), List.getElem?_take, if_pos hk]
    simp
  · by_cases hk2 : k < off + l.length
    · rw [if_pos ⟨by omega, by omega, by omega⟩, List.append_assoc, List.getElem?_append_right (by simp; omega)]
      have e1 : k - (cs.toList.take off).length = k - off := by simp; omega
      rw [e1, List.getElem?_append_left (by omega)]
      simp
    · rw [if_neg (by omega), List.getElem?_append_right (by simp; omega)]
      have e1 : k - (cs.toList.take off ++ l).length = k - (off + l.length) := by simp; omega
      rw [e1, List.getElem?_drop]
      have e2 : off + l.length + (k - (off + l.length)) = k := by omega
      rw [e2]
      simp
theorem VRs_over {cs vs : List AV} {rs us : List Value} {off : Nat} (h1 : VRs s w cs rs) (h2 : VRs s w vs us) (hl : off + vs.length ≤ cs.length) : VRs s w (cs.take off ++ vs ++ cs.drop (off + vs.length)) (rs.take off ++ us ++ rs.drop (off + us.length)) := by
  rw [VRs_length h2]
  exact VRs_append (VRs_append (VRs_take h1 off) h2) (VRs_drop h1 _)
theorem fillC_sound (place : Nat → Option (Nat × Nat)) : ∀ (ps : List (Nat × Nat × AV)) (vs : List (Nat × Value)) (zero r : List AV) (zs : Array Value), fillC zero ps = some r → PR s w place ps vs → VRs s w zero zs.toList → (∀ c ∈ zero, c.leaf = true) →
    ∃ us, Instr.fill place zs vs = some us ∧ VRs s w r us.toList ∧ ∀ c ∈ r, c.leaf = true
  | [], vs, zero, r, zs, hf, hp, hz, hl => by
    simp only [fillC] at hf
    injection hf with hf
    subst hf
    simp only [PR] at hp
    subst hp
    exact ⟨zs, rfl, hz, hl⟩
  | (off, n, v) :: ps, vs, zero, r, zs, hf, hp, hz, hl => by
    simp only [fillC] at hf
    split at hf
    · rename_i hc
      simp only [Bool.and_eq_true, beq_iff_eq, decide_eq_true_eq, List.all_eq_true] at hc
      obtain ⟨⟨⟨h1, h2⟩, h3⟩, h4⟩ := hc
      simp only [PR] at hp
      obtain ⟨i, x, l', rfl, h5, h6, h7⟩ := hp
      obtain ⟨h8, h9⟩ := VR_cells h6 h1
      have hsz : x.cells.size = n := by have := VRs_length h8; simp at this; omega
      have hzl := VRs_length hz
      simp at hzl
      have hzs : ((x.cells.toList.zipIdx 0).foldl (fun cs (x : Value × Nat) => cs.setIfInBounds (off + x.2) x.1) zs).toList = zs.toList.take off ++ x.cells.toList ++ zs.toList.drop (off + x.cells.toList.length) :=
        set_toList off x.cells.toList zs (by simp; omega)
      have hnew := VRs_over (off := off) hz h8 (by omega)
      rw [h2] at hnew
      obtain ⟨us, h10, h11, h12⟩ := fillC_sound place ps l' _ r ((x.cells.toList.zipIdx 0).foldl (fun cs (x : Value × Nat) => cs.setIfInBounds (off + x.2) x.1) zs) hf h7 (by rw [hzs]; exact hnew) (by
        intro c hc
        simp only [List.mem_append] at hc
        rcases hc with (hc | hc) | hc
        · exact hl c (List.mem_of_mem_take hc)
        · exact h4 c hc
        · exact hl c (List.mem_of_mem_drop hc))
      refine ⟨us, ?_, h11, h12⟩
      simp only [Instr.fill, h5]
      have hcond : ¬ ((x.cells.size ≠ n ∨ off + x.cells.size > zs.size)) := by omega
      simp only [ne_eq, Bool.or_eq_true, decide_eq_true_eq] at hcond ⊢
      rw [if_neg hcond, ← h10]
      congr 1
      rw [← Array.foldl_toList, Array.toList_zipIdx]
    · cases hf
theorem cParts_PR (hG : GlobR s w G) (he : EnvR s w e a) {pl : List (Nat × Nat)} : ∀ {ps : List (Nat × Operand)} {qs : List (Nat × Nat × X)}, cParts pl ps = some qs → PR s w (pl.toArray[·]?) (evParts G e qs) (ps.map fun (i, x) => (i, a.eval x))
  | [], qs, hc => by simp only [cParts] at hc; injection hc with hc; subst hc; simp [evParts, PR]
  | (i, x) :: ps, qs, hc => by
    simp only [cParts] at hc
    split at hc
    · rename_i f y ys hf hy hys
      injection hc with hc
      subst hc
      simp only [evParts, PR, List.map_cons]
      exact ⟨i, _, _, rfl, by simpa using hf, cX_VR hG he hy, cParts_PR hG he hys⟩
    · cases hc
theorem zeroOf_VR {t : TypeId} {z : List AV} (hz : zeroOf P t = some z) : ∃ i v, P.info? t = some i ∧ i.zero = some v ∧ v.cells.size = i.size ∧ VRs s w z v.cells.toList ∧ ∀ c ∈ z, c.leaf = true := by
  unfold zeroOf at hz
  split at hz
  · rename_i v hv
    split at hz
    · rename_i hs
      obtain ⟨i, hi, hiz⟩ := Option.bind_eq_some_iff.1 hv
      have := constVs_VRs s w hz
      refine ⟨i, v, hi, hiz, ?_, this.1, this.2⟩
      rw [hs]; simp [size, hi]
    · cases hz
  · cases hz
theorem q_bld {o : Oper} {t : TypeId} {ps : Array (Nat × Operand)} (hop : o.op = .build t ps) (hG : GlobR s w G) (he : EnvR s w e a) {i : I} (hc : cOp P o.op = some i) {v : AV} (hv : evQ U G i e h = some v) : QOK P s w o a v := by
  rw [hop] at hc
  simp only [cOp] at hc
  split at hc
  · rename_i fs z hu hz
    split at hc
    · rename_i pl hpl
      obtain ⟨qs, hqs, rfl⟩ := do_some hc
      obtain ⟨inf, zv, h1, h2, h3, h4, h5⟩ := zeroOf_VR (s := s) (w := w) hz
      simp only [evQ] at hv
      split at hv
      · rename_i r hr
        injection hv with hv
        subst hv
        obtain ⟨us, h6, h7, h8⟩ := fillC_sound (s := s) (w := w) (pl.toArray[·]?) _ _ _ r zv.cells hr (cParts_PR hG he hqs) h4 h5
        have hb : P.built t (ps.map fun (i, x) => (i, a.eval x)).toList = some us := by
          simp only [Program.built, h1, hu, h2, hpl]
          rw [← h6]
          congr 1
          simp
        refine ⟨.agg us, ?_, ?_⟩
        · simp only [execOp, hop, Sem.run_bind, run_build w t _ us hb, Result.andThen_ok]
          rfl
        · simp only [VR]; exact ⟨us, rfl, h7, h8⟩
      · cases hv
    · cases hc
  · cases hc
theorem q_nck {o : Oper} {x : Operand} (hop : o.op = .nilCheck x) (hG : GlobR s w G) (he : EnvR s w e a) {i : I} (hc : cOp P o.op = some i) {v : AV} (hv : evQ U G i e h = some v) : QOK P s w o a v := by
  rw [hop] at hc
  simp only [cOp] at hc
  obtain ⟨y, hy, rfl⟩ := do_some hc
  have hx := cX_VR hG he hy
  refine ⟨a.eval x, ?_, ?_⟩
  · simp only [evQ] at hv
    split at hv <;> first | (cases hv; done) | skip
    · rename_i hl; rw [hl] at hx
      obtain ⟨b, d, m, _, h2⟩ := VR_ptr hx
      simp [execOp, hop, h2]
    · rename_i hl; rw [hl] at hx
      simp only [VR] at hx
      obtain ⟨ad, rs, h2, _⟩ := hx
      simp [execOp, hop, h2]
    · rename_i hl; rw [hl] at hx
      simp only [VR] at hx
      obtain ⟨vs, us, h2, _⟩ := hx
      simp [execOp, hop, h2]
  · simp only [evQ] at hv
    split at hv <;> first | (cases hv; done) | skip
    all_goals rename_i hl; rw [hl] at hx; injection hv with hv; subst hv; exact hx
theorem q_un {o : Oper} {op : UnOp} {t : TypeId} {x : Operand} (hop : o.op = .unOp op t x) (hG : GlobR s w G) (he : EnvR s w e a) {i : I} (hc : cOp P o.op = some i) {v : AV} (hv : evQ U G i e h = some v) : QOK P s w o a v := by
  rw [hop] at hc
  simp only [cOp] at hc
  obtain ⟨y, hy, rfl⟩ := do_some hc
  have hx := cX_VR hG he hy
  simp only [evQ] at hv
  split at hv <;> first | (cases hv; done) | skip
  · rename_i hl; rw [hl] at hx
    injection hv with hv; subst hv
    have := VR_int hx
    exact ⟨_, by simp [execOp, hop, this, Op.unary, Op.intArith]; rfl, by simp only [VR]; rw [wr_eq]; simp⟩
  · rename_i hl; rw [hl] at hx
    injection hv with hv; subst hv
    have := VR_bool hx
    exact ⟨_, by simp [execOp, hop, this, Op.unary]; rfl, by simp only [VR]⟩
theorem mkI_run {t : TypeId} {v : Value} {d : TypeDesc} (hu : P.underlying t = some d) (hd : ∀ ms, d ≠ .interface ms) : (Instr.makeInterface t v).run P w = .ok (.iface t v) w := by
  simp only [Instr.makeInterface, Sem.run_bind, run_underlying hu, Result.andThen_ok]
  cases d <;> first | exact absurd rfl (hd _) | rfl
theorem q_mkI {o : Oper} {t : TypeId} {x : Operand} (hop : o.op = .makeInterface t x) (hG : GlobR s w G) (he : EnvR s w e a) {i : I} (hc : cOp P o.op = some i) {v : AV} (hv : evQ U G i e h = some v) : QOK P s w o a v := by
  rw [hop] at hc
  simp only [cOp] at hc
  split at hc
  · cases hc
  · rename_i d hd hu
    obtain ⟨y, hy, rfl⟩ := do_some hc
    have hx := cX_VR hG he hy
    simp only [evQ] at hv
    injection hv with hv; subst hv
    refine ⟨.iface t (a.eval x), ?_, by simp only [VR]; exact ⟨_, rfl, hx⟩⟩
    simp only [execOp, hop, Sem.run_bind, mkI_run hu (fun ms e => hd ms (by rw [← e])), Result.andThen_ok]
    rfl
  · cases hc
theorem q_mkF {o : Oper} {fn : Fn} {f c : Array Operand} (hop : o.op = .makeFunc fn f c) (hG : GlobR s w G) (he : EnvR s w e a) {i : I} (hc : cOp P o.op = some i) {v : AV} (hv : evQ U G i e h = some v) : QOK P s w o a v := by
  rw [hop] at hc
  cases fn <;> simp only [cOp] at hc <;> first | (cases hc; done) | skip
  rename_i id
  simp only [Option.bind_eq_bind, Option.bind_eq_some_iff, Option.some.injEq] at hc
  obtain ⟨f', hf, c', hc', rfl⟩ := hc
  simp only [evQ] at hv
  injection hv with hv; subst hv
  refine ⟨.func (.func id) (f.map a.eval) (c.map a.eval), by simp [execOp, hop, Instr.makeFunc], ?_⟩
  simp only [VR]
  refine ⟨_, _, rfl, ?_, ?_⟩
  · have := cXs_VR hG he hf; simpa using this
  · have := cXs_VR hG he hc'; simpa using this
theorem isAgg_run {t : TypeId} {ag : Bool} (ha : Tab.agg P t = some ag) (w : World) : (isAgg t).run P w = .ok ag w := by
  unfold Tab.agg at ha
  unfold isAgg
  split at ha
  · rename_i fs hu; injection ha with ha; subst ha; simp [run_underlying hu]
  · rename_i k el hu; injection ha with ha; subst ha; simp [run_underlying hu]
  · rename_i d h1 h2 hu
    injection ha with ha; subst ha
    cases d <;> first | exact absurd rfl (h1 _) | exact absurd rfl (h2 _ _) | simp [run_underlying hu]
  · cases ha
theorem run_loadVar {t : TypeId} {ag : Bool} {n : Nat} {ad : Addr} {r : List AV} {rs : List Value} {v : AV} (ha : Tab.agg P t = some ag) (hn : size P t = some n) (hm : mkV ag r = some v) (h1 : VRs s w r rs) (hl : ∀ c ∈ r, c.leaf = true) (hlen : rs.length = n) (hh : Holds w ad rs) :
    ∃ x, (loadVar t ad).run P w = .ok x w ∧ VR s w v x := by
  have hmk := mkV_VR hm h1 hl
  cases ag with
  | true =>
    refine ⟨.agg rs.toArray, ?_, hmk.1 rfl⟩
    have := run_loadCells_list (P := P) w ad rs hh
    rw [hlen] at this
    simp [loadVar, isAgg_run ha, sizeOf_run hn, this]
  | false =>
    obtain ⟨x, rfl, hx⟩ := hmk.2 rfl
    have : w.cell? ad = some x := by have := hh 0 x rfl; simpa [Addr.add] using this
    exact ⟨x, by simp [loadVar, isAgg_run ha, this], hx⟩
theorem obj_read (hr : Rel s h w) {l bk d m : Nat} {cs : List AV} {t : TypeId} {fz : Option Nat} (hρ : s.ρ l = some (bk, d, m)) (hg : h.get l = some (.cells cs t fz)) :
    ∃ rs, VRs s w cs rs ∧ Holds w ⟨bk, d, none⟩ rs ∧ (∀ c ∈ cs, c.leaf = true) ∧ cs.length ≤ m := by
  obtain ⟨c, lo, hi, h1, _, h3, h4, h5, h6, _⟩ := hr.obj l bk d m _ hρ hg
  refine ⟨_, h6, ?_, h5, h4⟩
  intro j v hj
  rw [addr_add]
  rw [List.getElem?_take] at hj
  split at hj
  · rw [List.getElem?_drop] at hj
    simp only [World.cell?, h1]
    simpa using hj
  · cases hj
theorem Holds_sub {ad : Addr} {rs : List Value} (hh : Holds w ad rs) (off n : Nat) : Holds w (ad.add off) ((rs.drop off).take n) := by
  intro j v hj
  rw [List.getElem?_take] at hj
  split at hj
  · rw [List.getElem?_drop] at hj
    rw [addr_add2]
    exact hh _ _ hj
  · cases hj
theorem q_ld {o : Oper} {t : TypeId} {x : Operand} (hop : o.op = .load t x) (hr : Rel s h w) (hG : GlobR s w G) (he : EnvR s w e a) {i : I} (hc : cOp P o.op = some i) {v : AV} (hv : evQ U G i e h = some v) : QOK P s w o a v := by
  rw [hop] at hc
  simp only [cOp] at hc
  split at hc
  · rename_i ag n hag hn
    obtain ⟨y, hy, rfl⟩ := do_some hc
    have hx := cX_VR hG he hy
    have fin : ∀ ad : Addr, a.eval x = .pointer (some ad) → (∃ z, (loadVar t ad).run P w = .ok z w ∧ VR s w v z) → QOK P s w o a v := by
      rintro ad h1 ⟨z, h2, h3⟩
      exact ⟨z, by simp [execOp, hop, Instr.loadAt, h1, Instr.sureAddr, h2], h3⟩
    simp only [evQ] at hv
    split at hv
    · rename_i l off hl
      rw [hl] at hx
      obtain ⟨b, d, m, h1, h2⟩ := VR_ptr hx
      split at hv
      · rename_i cs ty fz hget
        split at hv
        · rename_i r hsub
          obtain ⟨rs, g1, g2, g3, g4⟩ := obj_read hr h1 hget
          obtain ⟨g5, g6⟩ := VRs_sub hsub g1
          refine fin _ h2 (run_loadVar hag hn hv g5 (fun c hc => g3 c (sub_mem hsub hc)) g6 ?_)
          rw [← addr_add]
          exact Holds_sub g2 off n
        · cases hv
      · cases hv
    · rename_i cs hl
      rw [hl] at hx
      simp only [VR] at hx
      obtain ⟨ad, rs, h1, h2, h3, h4, h5, h6, h7⟩ := hx
      split at hv
      · rename_i r hsub
        obtain ⟨g5, g6⟩ := VRs_sub hsub h2
        refine fin _ h1 (run_loadVar hag hn hv g5 (fun c hc => h7 c (sub_mem hsub hc)) g6 ?_)
        have := Holds_sub h3 0 n
        simpa [Addr.add] using this
      · cases hv
    · cases hv
  · cases hc
theorem srcOf_sound (hr : Rel s h w) {n m : Nat} {x : AV} {xv : Value} {cs : List AV} (hx : VR s w x xv) (hs : srcOf h n x = some (m, cs)) :
    ∃ A c rs, xv = .slice A m c ∧ VRs s w cs rs ∧ (∀ c ∈ cs, c.leaf = true) ∧ rs.length = m * n ∧ ((A = none ∧ m = 0 ∧ rs = []) ∨ ∃ ad, A = some ad ∧ Holds w ad rs) := by
  unfold srcOf at hs
  split at hs
  · injection hs with hs
    injection hs with h1 h2
    subst h1; subst h2
    have : xv = .slice none 0 0 := by simpa only [VR] using hx
    exact ⟨none, 0, [], this, by simp [VRs], (fun _ h => by cases h), by simp, .inl ⟨rfl, rfl, rfl⟩⟩
  · rename_i l off sz' len cap ex
    split at hs
    · rename_i hsz
      subst hsz
      split at hs
      · rename_i ds ty fz hget
        split at hs
        · rename_i r hsub
          injection hs with hs
          injection hs with h1 h2
          subst h1; subst h2
          obtain ⟨bk, d, mm, ad, c, g1, g2, g3, g4⟩ := VR_sl hx
          obtain ⟨rs, k1, k2, k3, k4⟩ := obj_read hr g1 hget
          obtain ⟨k5, k6⟩ := VRs_sub hsub k1
          refine ⟨some ad, c, _, g2, k5, fun c hc => k3 c (sub_mem hsub hc), k6, .inr ⟨ad, rfl, ?_⟩⟩
          rcases g4 with ⟨rfl, _⟩ | ⟨rfl, _⟩
          · rw [← addr_add]; exact Holds_sub k2 off _
          · intro j v hj; simp at hj
        · cases hs
      · cases hs
    · cases hs
  · rename_i full sz' es
    split at hs
    · rename_i hsz
      injection hs with hs
      injection hs with h1 h2
      subst h1; subst h2
      obtain ⟨A, c, rfl, g2, g3, g4⟩ := VR_fsl hx
      rcases g4 with rfl | ⟨ad, rs, rfl, g5, g6, g7, g8, g9, g10⟩
      · cases A with
        | none =>
          exact ⟨none, c, [], rfl, by simp [VRs], (fun _ h => by simp at h), by simp, .inl ⟨rfl, rfl, rfl⟩⟩
        | some ad => exact ⟨some ad, c, [], rfl, by simp [VRs], (fun _ h => by simp at h), by simp, .inr ⟨ad, rfl, fun j v hj => by simp at hj⟩⟩
      · have hflat : ∀ (es : List AV) (rs : List Value) (base : Nat), VRs s w es rs → (∀ e ∈ es, e.elt = true) → (∀ i r, rs[i]? = some r → r.cells.size = sz' ∧ Holds w (ad.add ((base + i) * sz')) r.cells.toList) →
            VRs s w (es.flatMap (·.cells)) (rs.flatMap (·.cells.toList)) ∧ (∀ c ∈ es.flatMap (·.cells), c.leaf = true) ∧ (rs.flatMap (·.cells.toList)).length = es.length * sz' ∧ Holds w (ad.add (base * sz')) (rs.flatMap (·.cells.toList)) := by
          intro es
          induction es with
          | nil =>
            intro rs base hv _ _
            simp only [VRs] at hv
            subst hv
            exact ⟨by simp [VRs], (fun _ h => by simp at h), by simp, fun j v hj => by simp at hj⟩
          | cons x es ih =>
            intro rs base hv hel hh
            simp only [VRs] at hv
            obtain ⟨r, rs', rfl, hv1, hv2⟩ := hv
            obtain ⟨i1, i2, i3, i4⟩ := ih rs' (base + 1) hv2 (fun e he => hel e (by simp [he])) (fun i r hr => by
              have := hh (i + 1) r (by simpa using hr)
              rwa [show base + (i + 1) = base + 1 + i by omega] at this)
            obtain ⟨c1, c2⟩ := VR_cells hv1 (hel x (by simp))
            obtain ⟨q1, q2⟩ := hh 0 r rfl
            simp only [List.flatMap_cons]
            refine ⟨VRs_append c1 i1, fun c hc => ?_, ?_, ?_⟩
            · rcases List.mem_append.1 hc with hc | hc
              · exact c2 c hc
              · exact i2 c hc
            · simp [i3, q1, Nat.add_mul]; omega
            · intro j v hj
              by_cases hjl : j < r.cells.toList.length
              · rw [List.getElem?_append_left hjl] at hj
                have := q2 j v hj
                simpa using this
              · rw [List.getElem?_append_right (by omega)] at hj
                have := i4 _ v hj
                rw [addr_add2] at this
                rw [addr_add2]
                have e1 : (base + 1) * sz' + (j - r.cells.toList.length) = base * sz' + j := by
                  rw [Nat.add_mul]; simp at hjl ⊢; rw [q1] at hjl ⊢; omega
                rwa [e1] at this
        obtain ⟨j1, j2, j3, j4⟩ := hflat es rs 0 g5 g9 (fun i r hr => by simpa using g10 i r hr)
        have hszn : es.length * sz' = es.length * n := by
          rcases hsz with h | h
          · rw [h]
          · rw [h]; simp
        exact ⟨some ad, c, _, rfl, j1, j2, by rw [j3, hszn], .inr ⟨ad, rfl, by simpa [Addr.add] using j4⟩⟩
    · cases hs
  · cases hs
end
end Go.Eng
