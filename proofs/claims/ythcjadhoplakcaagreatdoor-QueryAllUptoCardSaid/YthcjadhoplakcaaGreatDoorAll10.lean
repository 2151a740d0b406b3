/- The law QueryAll of package grommetlaw24 answers true and turns no argument, for all arguments that are together of bulk at most 1048576; condition: the listed package variables start as the program's text lays them. (part 10.) -/
import Derived.Test.YthcjadhoplakcaaGreatDoorAll9
import Derived.Below
set_option linter.unusedSimpArgs false
set_option linter.unusedVariables false
namespace Go.Eng
open Go.RowKit
section
variable {P : Program} {U : List (TypeId × TypeId)} {G : Nat → AV}
def HasBody (P : Program) (f : FuncId) : Prop := ∃ fn c, P.funcs[f]? = some fn ∧ fn.body = some c ∧ (fn.name == "runtime.NumGoroutine") = false
theorem FnOk.has {f : FuncId} {fi : FI} (h : FnOk P f fi) : HasBody P f := by
  obtain ⟨fn, c, lv, f1, f2, f3, _⟩ := h
  exact ⟨fn, c, f1, f2, f3⟩
theorem HasBody.of {f : FuncId} {fn : Func} (h1 : P.funcs[f]? = some fn) (h2 : fn.body.isSome = true) (h3 : (fn.name == "runtime.NumGoroutine") = false) : HasBody P f := by
  obtain ⟨c, hc⟩ := Option.isSome_iff_exists.1 h2
  exact ⟨fn, c, h1, hc, h3⟩
theorem keep_of_below {s : St} {w w' : World} (h : Below w.heap.size w w') : Keep s w w' := ⟨h.os, h.tape, h.output, h.size, fun b hb _ => h.block b hb⟩
theorem Pure.of_calls {f : FuncId} {xs : List AV} {Q : AV → Prop} (hb : HasBody P f)
    (hc : ∀ (s : St) (w : World) (vs : Array Value), GlobR s w G → VRs s w xs vs.toList → Calls P f vs w fun e w' => ∃ r v, e = .returned r ∧ Below w.heap.size w w' ∧ Q v ∧ ∀ s' w', VR s' w' v r) : Pure P U G f xs Q := by
  obtain ⟨fn, c, f1, f2, f3⟩ := hb
  intro h s w vs hsU hr hG hvs
  have hcall : (callFunc f vs).run P w = .ok (.enter f vs) w := by
    have f3' : fn.name ≠ "runtime.NumGoroutine" := by simpa using f3
    simp [callFunc, f1, f3', f2]
  unfold Callee
  rw [hcall]
  simp only
  refine (hc s w vs hG hvs).mono ?_
  rintro e w' ⟨r, v, rfl, hw, hq, hv⟩
  have hk := keep_of_below (s := s) hw
  have st : Step s w s w' := ⟨⟨.refl _ _, hk⟩, Nat.le_refl _, fun _ _ => rfl⟩
  refine ⟨v, h, s, ⟨hq, rfl⟩, ?_, st, hv _ _⟩
  refine ⟨hr.low, fun l b d m hl => ⟨(hr.lt l b d m hl).1, Nat.lt_of_lt_of_le (hr.lt l b d m hl).2 hk.size⟩, hr.apart, fun b hb => Nat.lt_of_lt_of_le (hr.Flt b hb) hk.size, hr.inj, fun l b d m o hl ho => ?_⟩
  exact ObjR.mono st hr.apart (hr.obj l b d m o hl ho) (hw.block b (hr.lt l b d m hl).2)
theorem PureV.of_calls {f : FuncId} {xs : List AV} {v : AV} (hb : HasBody P f)
    (hc : ∀ (s : St) (w : World) (vs : Array Value), GlobR s w G → VRs s w xs vs.toList → Calls P f vs w fun e w' => ∃ r, e = .returned r ∧ Below w.heap.size w w' ∧ ∀ s' w', VR s' w' v r) : PureV P U G f xs v :=
  Pure.of_calls (Q := fun v' => v' = v) hb fun s w vs hG hvs => (hc s w vs hG hvs).mono fun e w' ⟨r, h1, h2, h3⟩ => ⟨r, v, h1, h2, rfl, h3⟩
theorem PureV.of_extern {f : FuncId} {xs : List AV} {v : AV}
    (hc : ∀ (s : St) (w : World) (vs : Array Value), VRs s w xs vs.toList → ∃ r, (callFunc f vs).run P w = .ok (.value r) w ∧ VR s w v r) : PureV P U G f xs v := by
  intro h s w vs hsU hr hG hvs
  obtain ⟨r, h1, h2⟩ := hc s w vs hvs
  unfold Callee
  rw [h1]
  exact ⟨v, h, s, ⟨rfl, rfl⟩, hr, Step.refl _ _, h2⟩
theorem GlobR.table {s : St} {w : World} (hG : GlobR s w G) {g : Nat} {k : IntKind} {zs : List Int} (hg : G g = .fptr (zs.map (AV.int k))) : ∃ t fr, w.heap[g]? = some (.cells (zs.map fun z => Value.int k z).toArray t fr) := by
  obtain ⟨c, t, fr, h1, h2⟩ := hG.whole g _ hg
  refine ⟨t, fr, ?_⟩
  rw [h1]
  have hv := hG.val g
  rw [hg] at hv
  simp only [VR] at hv
  obtain ⟨a, rs, h3, h4, h5, _⟩ := hv
  injection h3 with h3; injection h3 with h3; subst h3
  have hl := VRs_length h4
  simp only [List.length_map] at h2 hl
  have : c = (zs.map fun z => Value.int k z).toArray := by
    apply Array.ext
    · simpa using h2
    · intro i hi hi2
      have hi' : i < zs.length := by simpa using hi2
      have hcs : (zs.map (AV.int k))[i]? = some (AV.int k zs[i]) := by simp [hi']
      obtain ⟨r, h6, h7⟩ := VRs_get h4 hcs
      simp only [VR] at h7
      have h8 := h5 i r h6
      rw [Addr.add_lit] at h8
      simp only [World.cell?, h1] at h8
      simp [hi] at h8
      rw [h8, h7]
      simp
  rw [this]
theorem Spec.args {f : FuncId} {xs ys : List AV} {h : H} {Ψ : AV → H → Prop} (hl : LeL xs ys) (hs : Spec P U G f ys h Ψ) : Spec P U G f xs h Ψ := fun s w vs h1 h2 h3 h4 => hs s w vs h1 h2 h3 (VRs_le hl h4)
theorem PureV.args {f : FuncId} {xs ys : List AV} {v : AV} (hl : LeL xs ys) (hs : PureV P U G f ys v) : PureV P U G f xs v := fun h => Spec.args hl (hs h)
def Bytes (s : List Nat) : Prop := ∀ x ∈ s, x < 256
theorem VR_bytes {s : St} {w : World} {l : List Nat} {v : Value} (h : VR s w (.str l) v) : Bytes l := by
  obtain ⟨b, _, h2⟩ := VR_str h
  intro x hx
  rw [← h2] at hx
  obtain ⟨u, _, rfl⟩ := List.mem_map.1 hx
  exact u.toNat_lt
end
end Go.Eng
namespace Go.Eng
def okE (sz : Nat) (e : AV) : Prop := e.cells.length = sz ∧ mkE sz e.cells = e ∧ (∀ c ∈ e.cells, c.leaf = true)
theorem okE_leaf {e : AV} (h : e.leaf = true) : okE 1 e := by
  cases e <;> first
    | (cases h; done)
    | exact ⟨rfl, rfl, by simp [AV.cells, AV.leaf]⟩
theorem okE_agg {sz : Nat} {cs : List AV} (h : cs.length = sz) (h2 : sz ≠ 1) (hl : ∀ c ∈ cs, c.leaf = true) : okE sz (.agg cs) := by
  refine ⟨h, ?_, hl⟩
  unfold mkE
  split
  · rename_i v hv _
    exact absurd rfl h2
  · rfl
theorem flat_length {sz : Nat} : ∀ {es : List AV}, (∀ e ∈ es, okE sz e) → (es.flatMap AV.cells).length = es.length * sz
  | [], _ => by simp
  | e :: es, h => by
    simp only [List.flatMap_cons, List.length_append, List.length_cons]
    rw [flat_length fun x hx => h x (List.mem_cons_of_mem _ hx), (h e List.mem_cons_self).1, Nat.add_mul, Nat.one_mul, Nat.add_comm]
theorem chunks_flat {sz : Nat} : ∀ {es : List AV}, (∀ e ∈ es, okE sz e) → chunks sz es.length (es.flatMap AV.cells) = es
  | [], _ => rfl
  | e :: es, h => by
    obtain ⟨h1, h2, _⟩ := h e List.mem_cons_self
    simp only [List.length_cons, chunks, List.flatMap_cons]
    rw [List.take_left' h1, List.drop_left' h1, h2, chunks_flat fun x hx => h x (List.mem_cons_of_mem _ hx)]
def Els (B : Nat) (h : H) (v : AV) (sz : Nat) (t : TypeId) (es : List AV) : Prop :=
  (∀ e ∈ es, okE sz e) ∧ ((v = .nils ∧ es = []) ∨ ∃ l, v = .sl l 0 sz es.length es.length false ∧ B ≤ l ∧ l < h.next ∧ es ≠ [] ∧ h.get l = some (.cells (es.flatMap AV.cells) t (some 0)))
theorem Els.nil (B : Nat) (h : H) (sz : Nat) (t : TypeId) : Els B h .nils sz t [] := ⟨by simp, .inl ⟨rfl, rfl⟩⟩
theorem Els.same {B : Nat} {h h' : H} {v : AV} {sz : Nat} {t : TypeId} {es : List AV} (hs : Els B h v sz t es) (hn : h.next ≤ h'.next) (hg : ∀ j, B ≤ j → j < h.next → h'.get j = h.get j) : Els B h' v sz t es := by
  refine ⟨hs.1, hs.2.imp id ?_⟩
  rintro ⟨l, h1, h2, h3, h4, h5⟩
  exact ⟨l, h1, h2, by omega, h4, by rw [hg l h2 h3]; exact h5⟩
theorem Els.app {U : List (TypeId × TypeId)} {B : Nat} {h : H} {v : AV} {sz bytes m : Nat} {t : TypeId} {es ns : List AV} (hs : Els B h v sz t es) (hB : B ≤ h.next) (hm : ns.length = m) (hm0 : m ≠ 0) (hn : ∀ e ∈ ns, okE sz e) (hr : (es.length + m) * bytes ≤ 140737488355328) :
    ∃ v' h', evApp U sz bytes t v m (ns.flatMap AV.cells) h = some (v', h') ∧ h'.next = h.next + 1 ∧ (∀ j, j < B → h'.get j = h.get j) ∧ Els B h' v' sz t (es ++ ns) := by
  have hall : ∀ e ∈ es ++ ns, okE sz e := fun e he => by
    rcases List.mem_append.1 he with h1 | h1
    · exact hs.1 e h1
    · exact hn e h1
  have hne : es ++ ns ≠ [] := by
    intro h0
    have : (es ++ ns).length = 0 := by rw [h0]; rfl
    rw [List.length_append] at this; omega
  rcases hs with ⟨h1, ⟨rfl, rfl⟩ | ⟨l, rfl, h2, h3, h4, h5⟩⟩
  · refine ⟨.sl h.next 0 sz m m false, h.new (.cells (ns.flatMap AV.cells) t (some 0)), ?_, rfl, fun j hj => ?_, hall, .inr ⟨h.next, ?_, hB, ?_, hne, ?_⟩⟩
    · simp only [List.length_nil, Nat.zero_add] at hr
      unfold evApp
      simp only [hm0, if_false, roomB, hr, if_true]
    · rw [H.get_new, if_neg (by omega)]
    · simp [hm]
    · rw [H.next_new]; omega
    · rw [H.get_new, if_pos rfl]; simp
  · have hlen := flat_length h1
    have hsub : sub (es.flatMap AV.cells) 0 (es.length * sz) = some (es.flatMap AV.cells) := by
      simp only [sub, List.drop_zero, ← hlen, List.take_length, if_true]
    refine ⟨.sl h.next 0 sz (es.length + m) (es.length + m) false, (h.del l).new (.cells (es.flatMap AV.cells ++ ns.flatMap AV.cells) t (some 0)), ?_, rfl, fun j hj => ?_, hall, .inr ⟨h.next, ?_, hB, ?_, hne, ?_⟩⟩
    · unfold evApp
      simp only [hm0, if_false, roomB, hr, and_self, if_true, h5, hsub]
      rw [if_neg (by omega)]
      simp
    · rw [H.get_new, if_neg (by rw [H.next_del]; omega), H.get_del, if_neg (by omega)]
    · simp [hm]
    · rw [H.next_new, H.next_del]; omega
    · rw [H.get_new, H.next_del, if_pos rfl]; simp
section
variable {P : Program} {U : List (TypeId × TypeId)} {G : Nat → AV} {rs : List RV} {Ψ : AV → H → Prop} {e : Env} {h : H} {lv : List Nat} {k : List Fr} {l : List O} {B0 : Nat} {dl : List (Nat × O × Nat)} {ps : List Pd}
theorem bE_app {B : Nat} {v x : AV} {sz bytes : Nat} {t : TypeId} {es cs : List AV} {d : Option Nat} (hs : Els B h v sz t es) (hB : B ≤ h.next) (hn : okE sz x) (hc : x.cells = cs) (hr : (es.length + 1) * bytes ≤ 140737488355328)
    (hk : ∀ v' h', h'.next = h.next + 1 → (∀ j, j < B → h'.get j = h.get j) → Els B h' v' sz t (es ++ [x]) → Rg P U G rs Ψ l (e.put d v') h' lv k) : bE P U G rs Ψ (evApp U sz bytes t v 1 cs h) d l e lv k := by
  obtain ⟨v', h', h1, h2, h3, h4⟩ := hs.app (U := U) (ns := [x]) (m := 1) hB rfl (by omega) (by simpa using hn) hr
  simp only [List.flatMap_cons, List.flatMap_nil, List.append_nil, hc] at h1
  rw [h1]
  exact hk v' h' h2 h3 h4
theorem bE_apps {B : Nat} {v : AV} {sz bytes m : Nat} {t : TypeId} {es ns cs : List AV} {d : Option Nat} (hs : Els B h v sz t es) (hB : B ≤ h.next) (hm : ns.length = m) (hm0 : m ≠ 0) (hn : ∀ x ∈ ns, okE sz x) (hc : ns.flatMap AV.cells = cs) (hr : (es.length + m) * bytes ≤ 140737488355328)
    (hk : ∀ v' h', h'.next = h.next + 1 → (∀ j, j < B → h'.get j = h.get j) → Els B h' v' sz t (es ++ ns) → Rg P U G rs Ψ l (e.put d v') h' lv k) : bE P U G rs Ψ (evApp U sz bytes t v m cs h) d l e lv k := by
  obtain ⟨v', h', h1, h2, h3, h4⟩ := hs.app (U := U) hB hm hm0 hn hr
  rw [hc] at h1
  rw [h1]
  exact hk v' h' h2 h3 h4
theorem dE_app {B : Nat} {h0 : H} {v x : AV} {sz bytes m : Nat} {t : TypeId} {es cs : List AV} {d : Option Nat} (hs : Els B h v sz t es) (hB : B ≤ h.next) (hn : okE sz x) (hc : x.cells = cs) (hr : (es.length + 1) * bytes ≤ 140737488355328)
    (hk : ∀ v' h', h'.next = h.next + 1 → (∀ j, j < B → h'.get j = h.get j) → Els B h' v' sz t (es ++ [x]) → okAll U G h' m ps ∧ Rd P U G rs Ψ B0 dl (still m ps) (e.put d v') h' lv k) : dE P U G rs Ψ B0 h0 (evApp U sz bytes t v 1 cs h) m d dl ps e lv k := by
  obtain ⟨v', h', h1, h2, h3, h4⟩ := hs.app (U := U) (ns := [x]) (m := 1) hB rfl (by omega) (by simpa using hn) hr
  simp only [List.flatMap_cons, List.flatMap_nil, List.append_nil, hc] at h1
  rw [h1]
  exact dE_some (hk v' h' h2 h3 h4).1 (hk v' h' h2 h3 h4).2
theorem Els.len {B : Nat} {v : AV} {sz : Nat} {t : TypeId} {es : List AV} (hs : Els B h v sz t es) : lenV 1 h v = some (.int .i64 es.length) := by
  rcases hs with ⟨h1, ⟨rfl, rfl⟩ | ⟨l, rfl, h2, h3, h4, h5⟩⟩ <;> rfl
theorem Els.elt {B : Nat} {v : AV} {sz : Nat} {t : TypeId} {es : List AV} (hs : Els B h v sz t es) : v.elt = true ∧ v.leaf = true ∧ v.cells = [v] := by
  rcases hs with ⟨h1, ⟨rfl, rfl⟩ | ⟨l, rfl, h2, h3, h4, h5⟩⟩ <;> exact ⟨rfl, rfl, rfl⟩
theorem Els.fz {p : Nat → Bool} {B d : Nat} {v : AV} {sz : Nat} {t : TypeId} {es : List AV} (hs : Els B h v sz t es) (hp : ∀ l, B ≤ l → p l = false) (hc : fzL p h d (es.flatMap AV.cells) = some (es.flatMap AV.cells)) :
    ∃ v1, fz p h (d + 1) v = some v1 ∧ Le v1 (.fsl false sz es) := by
  rcases hs with ⟨h1, ⟨rfl, rfl⟩ | ⟨l, rfl, h2, h3, h4, h5⟩⟩
  · exact ⟨.nils, by simp only [Go.Eng.fz], Le.nils _ _⟩
  · have hlen := flat_length h1
    have hsub : sub (es.flatMap AV.cells) 0 (es.length * sz) = some (es.flatMap AV.cells) := by
      simp only [sub, List.drop_zero, ← hlen, List.take_length, if_true]
    refine ⟨.fsl false sz es, ?_, Le.refl _⟩
    rw [fz_sl, hp l h2, h5]
    simp only [fzS, hsub, hc, mapA, chunks_flat h1]
    simp
theorem fz_closed {p : Nat → Bool} : ∀ (d : Nat) (c : AV), (match c with
    | .bool _ | .int _ _ | .str _ | .nilp | .nils | .nilm | .nilf | .nili => True
    | .fsl _ _ es => AV.clL p es = true
    | .fptr es => AV.clL p es = true
    | _ => False) → fz p h (d + 1) c = some c := by
  intro d c hc
  cases c <;> first | exact hc.elim | (simp only [Go.Eng.fz]; done) | (simp only [Go.Eng.fz]; simp only at hc; rw [if_pos hc])
theorem fzL_of {p : Nat → Bool} {d : Nat} : ∀ {cs : List AV}, (∀ c ∈ cs, fz p h d c = some c) → fzL p h (d + 1) cs = some cs
  | [], _ => by simp only [fzL]
  | c :: cs, hc => by
    rw [fzL_cons, hc c List.mem_cons_self, fzL_of fun x hx => hc x (List.mem_cons_of_mem _ hx)]
    rfl
theorem fin_one {p : Nat → Bool} {d : Nat} {a x : AV} {Q : AV → Prop} (h1 : ∃ v1, fz p h d a = some v1 ∧ Le v1 x) (hq : Q x) : ∃ v v1, fz p h d a = some v1 ∧ Le v1 v ∧ Q v := by
  obtain ⟨v1, k1, k2⟩ := h1
  exact ⟨x, v1, k1, k2, hq⟩
theorem fin_tup1 {p : Nat → Bool} {d : Nat} {a x y : AV} {Q : AV → Prop} (h1 : ∃ v1, fz p h d a = some v1 ∧ Le v1 x) (hq : Q (.tup [x, y])) : ∃ v v1, mapA AV.tup (consO (fz p h d a) (some [y])) = some v1 ∧ Le v1 v ∧ Q v := by
  obtain ⟨v1, k1, k2⟩ := h1
  rw [k1]
  exact ⟨.tup [x, y], _, rfl, Le.tup (ys := [x, y]) ⟨k2, Le.refl _, trivial⟩, hq⟩
end
end Go.Eng
namespace Go.Eng
/-! ### maps -/
section
variable {κ ν : Type} [DecidableEq κ]
def getA (k : κ) : List (κ × ν) → Option ν
  | [] => none
  | (a, v) :: m => if k = a then some v else getA k m
def putA (k : κ) (v : ν) : List (κ × ν) → List (κ × ν)
  | [] => [(k, v)]
  | (a, u) :: m => if k = a then (k, v) :: m else (a, u) :: putA k v m
def delA (k : κ) : List (κ × ν) → List (κ × ν)
  | [] => []
  | (a, u) :: m => if k = a then m else (a, u) :: delA k m
theorem getA_put (k j : κ) (v : ν) : ∀ m : List (κ × ν), getA j (putA k v m) = if j = k then some v else getA j m
  | [] => by
    simp only [putA, getA]
  | (a, u) :: m => by
    simp only [putA]
    by_cases h : k = a
    · subst h
      rw [if_pos rfl]
      simp only [getA]
      by_cases hj : j = k <;> simp [hj]
    · rw [if_neg h]
      simp only [getA, getA_put k j v m]
      by_cases hj : j = a
      · subst hj
        rw [if_pos rfl, if_neg (fun e => h e.symm), if_pos rfl]
      · rw [if_neg hj]
        by_cases hk : j = k <;> simp [hk, hj]
def encM (ek : κ → AV) (ev : ν → AV) (m : List (κ × ν)) : List (AV × AV) := m.map fun p => (ek p.1, ev p.2)
def idxA (k : κ) : List (κ × ν) → Nat → Option (Nat × ν)
  | [], _ => none
  | (a, v) :: m, i => if k = a then some (i, v) else idxA k m (i + 1)
theorem findK_enc {h : H} {q : KT} {ek : κ → AV} {ev : ν → AV} (he : ∀ a b, eqKey h q (ek a) (ek b) = some (decide (a = b))) (k : κ) : ∀ (m : List (κ × ν)) (i : Nat), findK h q (ek k) (encM ek ev m) i = some ((idxA k m i).map fun p => (p.1, ev p.2))
  | [], _ => rfl
  | (a, v) :: m, i => by
    simp only [encM, List.map_cons, findK, he, idxA]
    by_cases hk : k = a
    · simp [hk]
    · simp only [hk, decide_false, if_false]
      exact findK_enc he k m (i + 1)
theorem idxA_get (k : κ) : ∀ (m : List (κ × ν)) (i : Nat), (idxA k m i).map (·.2) = getA k m
  | [], _ => rfl
  | (a, v) :: m, i => by
    simp only [idxA, getA]
    split <;> first | rfl | exact idxA_get k m (i + 1)
theorem idxA_none (k : κ) {m : List (κ × ν)} {i : Nat} (h : getA k m = none) : idxA k m i = none := by
  have := idxA_get k m i
  rw [h] at this
  exact Option.map_eq_none_iff.1 this
theorem setK_enc {ek : κ → AV} {ev : ν → AV} (k : κ) (v : ν) : ∀ (m : List (κ × ν)) (i j : Nat) (u : ν), idxA k m i = some (j, u) → setK (ek k) (ev v) (encM ek ev m) (j - i) = encM ek ev (putA k v m) ∧ i ≤ j
  | [], _, _, _, h => by cases h
  | (a, w) :: m, i, j, u, h => by
    simp only [idxA] at h
    by_cases hk : k = a
    · rw [if_pos hk] at h
      injection h with h; injection h with h1 h2
      subst h1
      simp [encM, putA, hk, setK]
    · rw [if_neg hk] at h
      obtain ⟨h1, h2⟩ := setK_enc k v m (i + 1) j u h
      refine ⟨?_, by omega⟩
      have hj : j - i = (j - (i + 1)) + 1 := by omega
      rw [hj]
      simp only [encM, List.map_cons, setK, putA, hk, if_false]
      exact congrArg _ h1
theorem putA_none (k : κ) (v : ν) : ∀ {m : List (κ × ν)}, getA k m = none → putA k v m = m ++ [(k, v)]
  | [], _ => rfl
  | (a, w) :: m, h => by
    simp only [getA] at h
    split at h
    · cases h
    · rename_i hk
      simp only [putA, hk, if_false, putA_none k v h, List.cons_append]
theorem lkO_enc {h : H} {q : KT} {ek : κ → AV} {ev : ν → AV} (he : ∀ a b, eqKey h q (ek a) (ek b) = some (decide (a = b))) (hk : ∀ a, keyOk q (ek a) = true) (zero : AV) (ok : Bool) (k : κ) (m : List (κ × ν)) :
    lkO q zero ok h (ek k) (some (.map (encM ek ev m))) = some (match getA k m with
      | some v => if ok then .tup [ev v, .bool true] else ev v
      | none => if ok then .tup [zero, .bool false] else zero) := by
  simp only [lkO, hk, if_true, findK_enc he]
  have := idxA_get k m 0
  cases hi : idxA k m 0 with
  | none =>
    rw [hi] at this
    rw [← this]
    rfl
  | some p =>
    rw [hi] at this
    rw [← this]
    rfl
theorem upO_enc {h : H} {q : KT} {ek : κ → AV} {ev : ν → AV} (he : ∀ a b, eqKey h q (ek a) (ek b) = some (decide (a = b))) (hk : ∀ a, keyOk q (ek a) = true) (l : Nat) (k : κ) (v : ν) (m : List (κ × ν)) :
    upO q l (ek k) (ev v) h (some (.map (encM ek ev m))) = some (.any, h.set l (.map (encM ek ev (putA k v m)))) := by
  simp only [upO, hk, if_true, findK_enc he]
  cases hi : idxA k m 0 with
  | none =>
    have := idxA_get k m 0
    rw [hi] at this
    rw [putA_none k v this.symm]
    simp [upR, encM]
  | some p =>
    obtain ⟨j, u⟩ := p
    have h1 := (setK_enc (ek := ek) (ev := ev) k v m 0 j u hi).1
    simp only [Nat.sub_zero] at h1
    simp only [Option.map_some, upR, h1]
end
/-! ### looking through -/
def idxF {α : Type} (p : α → Bool) : List α → Int
  | [] => -1
  | x :: l => if p x then 0 else if idxF p l = -1 then -1 else idxF p l + 1
theorem idxF_ge {α : Type} (p : α → Bool) : ∀ l : List α, -1 ≤ idxF p l
  | [] => by simp [idxF]
  | x :: l => by
    have := idxF_ge p l
    simp only [idxF]
    split <;> first | omega | (split <;> omega)
theorem idxF_any {α : Type} (p : α → Bool) : ∀ l : List α, decide (0 ≤ idxF p l) = l.any p
  | [] => by simp [idxF]
  | x :: l => by
    have h1 := idxF_ge p l
    have h2 := idxF_any p l
    simp only [idxF, List.any_cons]
    by_cases hx : p x = true
    · simp [hx]
    · have hx' : p x = false := by simpa using hx
      simp only [hx', Bool.false_or, ← h2, Bool.false_eq_true, if_false]
      by_cases h3 : idxF p l = -1
      · simp [h3]
      · rw [if_neg h3]
        have : 0 ≤ idxF p l := by omega
        simp [this]; omega
theorem idxF_found {α : Type} {p : α → Bool} : ∀ {l : List α} {i : Nat} {x : α}, (∀ (j : Nat) y, j < i → l[j]? = some y → p y = false) → l[i]? = some x → p x = true → idxF p l = i
  | [], i, x, _, h, _ => by simp at h
  | a :: l, 0, x, h0, h, hp => by
    simp at h; subst h
    simp [idxF, hp]
  | a :: l, i + 1, x, h0, h, hp => by
    have h1 := h0 0 a (by omega) rfl
    have h2 := idxF_found (l := l) (i := i) (x := x) (fun j y hj hy => h0 (j + 1) y (by omega) (by simpa using hy)) (by simpa using h) hp
    simp only [idxF, h1, Bool.false_eq_true, if_false, h2]
    rw [if_neg (by omega)]
    simp
theorem idxF_none {α : Type} {p : α → Bool} : ∀ {l : List α}, (∀ (j : Nat) y, l[j]? = some y → p y = false) → idxF p l = -1
  | [], _ => rfl
  | a :: l, h0 => by
    have h1 := h0 0 a rfl
    have h2 := idxF_none (l := l) (fun j y hy => h0 (j + 1) y (by simpa using hy))
    simp [idxF, h1, h2]
end Go.Eng
namespace Go.Eng
mutual
def AV.own (p : Nat → Bool) : AV → Bool
  | .ptr l _ => p l
  | .sl l _ _ _ _ _ => p l
  | .map l => p l
  | .fptr _ => false
  | .fsl _ _ es => es.isEmpty
  | .fn _ a b => AV.ownL p a && AV.ownL p b
  | .iface _ v => AV.own p v
  | .agg cs => AV.ownL p cs
  | .tup cs => AV.ownL p cs
  | _ => true
def AV.ownL (p : Nat → Bool) : List AV → Bool
  | [] => true
  | c :: cs => AV.own p c && AV.ownL p cs
end
def AObj.own (p : Nat → Bool) : AObj → Bool
  | .cells cs _ _ => AV.ownL p cs
  | .map es => AV.ownL p (es.map (·.1)) && AV.ownL p (es.map (·.2))
theorem ownL_of {p : Nat → Bool} : ∀ {cs : List AV}, (∀ c ∈ cs, AV.own p c = true) → AV.ownL p cs = true
  | [], _ => rfl
  | c :: cs, h => by
    simp only [AV.ownL, h c List.mem_cons_self, ownL_of fun x hx => h x (List.mem_cons_of_mem _ hx), Bool.and_self]
section
variable {p : Nat → Bool} {s s' : St} {w : World}
mutual
theorem VR_own (hρ : ∀ l x, p l = true → s.ρ l = some x → s'.ρ l = some x) : ∀ {x : AV} {v : Value}, x.own p = true → VR s w x v → VR s' w x v
  | .any, _, _, _ => by simp only [VR]
  | .bool b, v, _, h => by simpa only [VR] using h
  | .int _ n, v, _, h => by simpa only [VR] using h
  | .str l, v, _, h => by simpa only [VR] using h
  | .nilp, v, _, h => by simpa only [VR] using h
  | .nils, v, _, h => by simpa only [VR] using h
  | .nilm, v, _, h => by simpa only [VR] using h
  | .nilf, v, _, h => by simpa only [VR] using h
  | .nili, v, _, h => by simpa only [VR] using h
  | .ptr l off, v, c, h => by
    simp only [VR] at h ⊢
    simp only [AV.own] at c
    obtain ⟨b, d, m, h1, h2⟩ := h
    exact ⟨b, d, m, hρ _ _ c h1, h2⟩
  | .fptr cs, v, c, h => by cases c
  | .sl l off sz len cap ex, v, c, h => by
    simp only [VR] at h ⊢
    simp only [AV.own] at c
    obtain ⟨b, d, m, ad, cc, h1, h2⟩ := h
    exact ⟨b, d, m, ad, cc, hρ _ _ c h1, h2⟩
  | .fsl full sz es, v, c, h => by
    simp only [AV.own, List.isEmpty_iff] at c
    subst c
    unfold VR at h ⊢
    obtain ⟨A, cc, h1, h2, h3, h4⟩ := h
    exact ⟨A, cc, h1, h2, h3, .inl rfl⟩
  | .map l, v, c, h => by
    simp only [VR] at h ⊢
    simp only [AV.own] at c
    obtain ⟨b, d, m, h1, h2⟩ := h
    exact ⟨b, d, m, hρ _ _ c h1, h2⟩
  | .fn f first cap, v, c, h => by
    simp only [VR] at h ⊢
    simp only [AV.own, Bool.and_eq_true] at c
    obtain ⟨vs, us, h1, h2, h3⟩ := h
    exact ⟨vs, us, h1, VRs_own hρ c.1 h2, VRs_own hρ c.2 h3⟩
  | .iface t x, v, c, h => by
    simp only [VR] at h ⊢
    simp only [AV.own] at c
    obtain ⟨y, h1, h2⟩ := h
    exact ⟨y, h1, VR_own hρ c h2⟩
  | .agg cs, v, c, h => by
    simp only [VR] at h ⊢
    simp only [AV.own] at c
    obtain ⟨vs, h1, h2, h3⟩ := h
    exact ⟨vs, h1, VRs_own hρ c h2, h3⟩
  | .tup cs, v, c, h => by
    simp only [VR] at h ⊢
    simp only [AV.own] at c
    obtain ⟨vs, h1, h2⟩ := h
    exact ⟨vs, h1, VRs_own hρ c h2⟩
theorem VRs_own (hρ : ∀ l x, p l = true → s.ρ l = some x → s'.ρ l = some x) : ∀ {xs : List AV} {vs : List Value}, AV.ownL p xs = true → VRs s w xs vs → VRs s' w xs vs
  | [], _, _, h => by simpa only [VRs] using h
  | x :: xs, vs, c, h => by
    simp only [AV.ownL, Bool.and_eq_true] at c
    simp only [VRs] at h ⊢
    obtain ⟨r, rs', h1, h2, h3⟩ := h
    exact ⟨r, rs', h1, VR_own hρ c.1 h2, VRs_own hρ c.2 h3⟩
end
theorem ObjR_own (hρ : ∀ l x, p l = true → s.ρ l = some x → s'.ρ l = some x) (hU : s'.U = s.U) {b d m : Nat} {o : AObj} (hc : o.own p = true) (h : ObjR s w b d m o) : ObjR s' w b d m o := by
  cases o with
  | cells cs e fz =>
    obtain ⟨c, lo, hi, h1, h2, h3, h4, h5, h6, h7⟩ := h
    exact ⟨c, lo, hi, h1, h2, h3, h4, h5, VRs_own hρ hc h6, by rw [hU]; exact h7⟩
  | map es =>
    obtain ⟨en, clock, h1, h2, h3⟩ := h
    simp only [AObj.own, Bool.and_eq_true] at hc
    exact ⟨en, clock, h1, VRs_own hρ hc.1 h2, VRs_own hρ hc.2 h3⟩
end
section
variable {P : Program} {G : Nat → AV} {U : List (TypeId × TypeId)}
theorem Spec.lend {f : FuncId} {xs xs1 xs' : List AV} {h : H} (d dd : Nat) {Q : AV → Prop} (hx : fzL (fun _ => false) h d xs = some xs1) (hle : LeL xs1 xs') (hGc : ∀ g, (G g).cl (fun _ => false) = true)
    (hs : Spec P U G f xs' ⟨0, .nil⟩ fun v0 h1 => ∃ (L1 : List Nat) (v v1 : AV), v0.own L1.contains = true ∧ (∀ l ∈ L1, ∀ o, h1.get l = some o → o.own L1.contains = true) ∧ fz (fun _ => false) h1 dd v0 = some v1 ∧ Le v1 v ∧ Q v) : Spec P U G f xs h fun v h' => Q v ∧ h' = h := by
  intro s w vs hsU hr hG hvs
  let s0 : St := ⟨fun _ => none, fun b => s.F b ∨ ∃ l d m, s.ρ l = some (b, d, m) ∧ (h.get l).isSome = true, s.U, 0⟩
  have r0 : Rel s0 ⟨0, .nil⟩ w := by
    refine ⟨Nat.le_refl _, fun l b d m hl => (by cases hl), fun l b d m hl => (by cases hl), fun b hb => ?_, fun l l' b d m d' m' h1 => (by cases h1), fun l b d m o hl => (by cases hl)⟩
    rcases hb with hb | ⟨l, d, m, h1, _⟩
    · exact hr.Flt b hb
    · exact (hr.lt l b d m h1).2
  have hG0 : GlobR s0 w G := ⟨fun g => VR_cl (s := s) (s' := s0) (p := fun _ => false) (fun l x hp => by cases hp) (fun _ h => .inl h) (hGc g) (hG.val g), hG.whole⟩
  have hv0 : VRs s0 w xs' vs.toList := VRs_le hle <| fzL_sound (p := fun _ => false) (s := s) (s' := s0) hr (fun l x hp => by cases hp) (fun b hb => .inl hb) (fun l b d m hl _ ha => .inr ⟨l, d, m, hl, ha⟩) hx hvs
  refine (hs s0 w vs hsU r0 hG0 hv0).mono ?_
  rintro r w' ⟨v0, h1, s1, ⟨L1, v, v1, o1, o2, q1, q2, q3⟩, r1, st, hv⟩
  let s3 : St := ⟨fun l => if L1.contains l = true then s1.ρ l else none, s.F, s1.U, 0⟩
  have ρ3 : ∀ l x, s3.ρ l = some x → L1.contains l = true ∧ s1.ρ l = some x := fun l x hx => by
    simp only [s3] at hx
    split at hx
    · exact ⟨‹_›, hx⟩
    · cases hx
  have ρ4 : ∀ l x, L1.contains l = true → s1.ρ l = some x → s3.ρ l = some x := fun l x hp hx => by
    simp only [s3, if_pos hp]; exact hx
  have r3 : Rel s3 h1 w' := by
    refine ⟨Nat.zero_le _, fun l b d m hl => r1.lt l b d m (ρ3 l _ hl).2, fun l b d m hl hF => ?_, fun b hb => Nat.lt_of_lt_of_le (hr.Flt b hb) st.keep.size, fun l l' b d m d' m' h1 h2 g1 g2 => r1.inj l l' b d m d' m' (ρ3 l _ h1).2 (ρ3 l' _ h2).2 g1 g2, fun l b d m o hl ho => ?_⟩
    · exact r1.apart l b d m (ρ3 l _ hl).2 (st.ext.F b (.inl hF))
    · obtain ⟨k1, k2⟩ := ρ3 l _ hl
      exact ObjR_own (p := L1.contains) ρ4 rfl (o2 l (by simpa using k1) o ho) (r1.obj l b d m o k2 ho)
  have hv3 : VR s3 w' v0 r := VR_own (p := L1.contains) ρ4 o1 hv
  let s2 : St := ⟨s.ρ, fun b => s.F b ∨ (w.heap.size ≤ b ∧ b < w'.heap.size ∧ ∃ l d m, s1.ρ l = some (b, d, m) ∧ (h1.get l).isSome = true), s.U, s.n⟩
  have F2 : ∀ b, s3.F b → s2.F b := fun b hb => .inl hb
  have N2 : ∀ l b d m, s3.ρ l = some (b, d, m) → (fun _ : Nat => false) l = false → (h1.get l).isSome = true → s2.F b := by
    intro l b d m hl _ hlv
    have hl1 := (ρ3 l _ hl).2
    refine .inr ⟨?_, (r1.lt l b d m hl1).2, l, d, m, hl1, hlv⟩
    rcases st.ext.back l b d m hl1 with ⟨l', d', m', h'⟩ | h'
    · cases h'
    · exact h'
  have kp : Keep s w w' := ⟨st.keep.os, st.keep.tape, st.keep.output, st.keep.size, fun b hb hn => st.keep.block b hb fun l d m hl => by cases hl⟩
  have stp : Step s w s2 w' := by
    refine ⟨⟨⟨fun _ _ h => h, fun b hb => .inl hb, rfl, fun l b d m h => .inl ⟨l, d, m, h⟩, fun b hb => ?_⟩, kp⟩, Nat.le_refl _, fun _ _ => rfl⟩
    rcases hb with hb | ⟨hb, _⟩
    · exact .inl hb
    · exact .inr hb
  refine ⟨v, h, s2, ⟨q3, rfl⟩, ?_, stp, q2 _ _ _ (fz_sound (p := fun _ => false) r3 (fun l x hp => by cases hp) F2 N2 q1 hv3)⟩
  refine ⟨hr.low, fun l b d m hl => ?_, fun l b d m hl hF => ?_, fun b hb => ?_, fun l l' b d m d' m' h1 h2 g1 g2 => hr.inj l l' b d m d' m' h1 h2 g1 g2, fun l b d m o hl ho => ?_⟩
  · exact ⟨(hr.lt l b d m hl).1, Nat.lt_of_lt_of_le (hr.lt l b d m hl).2 kp.size⟩
  · have hlt := (hr.lt l b d m hl).2
    rcases hF with hF | ⟨hF, _⟩
    · exact hr.apart l b d m hl hF
    · omega
  · rcases hb with hb | ⟨_, hb, _⟩
    · exact Nat.lt_of_lt_of_le (hr.Flt b hb) kp.size
    · exact hb
  · exact ObjR.mono' stp.toMono hr.apart (hr.obj l b d m o hl ho) (st.keep.block b (hr.lt l b d m hl).2 fun l0 d0 m0 h0' => by cases h0')
end
end Go.Eng
