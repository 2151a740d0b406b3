/- The law QueryAll of package grommetlaw24 answers true and turns no argument, for all arguments that are together of bulk at most 1048576; condition: the listed package variables start as the program's text lays them. (part 8.) -/
import Derived.Test.YthcjadhoplakcaaGreatDoorAll7
import Derived.LoopN
set_option linter.unusedSimpArgs false
set_option linter.unusedVariables false
namespace Go.Eng
section
variable {P : Program} {N : Nat} {ops : Array Oper} {e0 : Env} {B B' : Nat → Bool} {G : Nat → AV} {U : List (TypeId × TypeId)} {C : CC} {s0 : St} {w0 : World} {base : Nat} {nw : Bool} {Φ : Env → H → Prop}
theorem okRest_mem : ∀ {l pre : List (Nat × O × Nat)}, okRest P N ops pre l = true → ∀ x ∈ l, ∃ pre', One P N ops pre' x.1 x.2.1 x.2.2 ∧ (∀ p ∈ pre', p ∈ pre ∨ p ∈ l) ∧ (∀ p ∈ pre, p ∈ pre')
  | [], _, _, x, hx => by cases hx
  | (q, o, m) :: l, pre, hk, x, hx => by
    simp only [okRest, Bool.and_eq_true] at hk
    rcases List.mem_cons.1 hx with e | e
    · subst e
      exact ⟨pre, okOne_spec hk.1, fun p hp => .inl hp, fun p hp => hp⟩
    · obtain ⟨pre', h1, h2, h3⟩ := okRest_mem hk.2 x e
      refine ⟨pre', h1, fun p hp => ?_, fun p hp => h3 p (List.mem_cons_of_mem _ hp)⟩
      rcases h2 p hp with h4 | h4
      · rcases List.mem_cons.1 h4 with h5 | h5
        · subst h5; exact .inr List.mem_cons_self
        · exact .inl h5
      · exact .inr (List.mem_cons_of_mem _ h4)
theorem okRest_tail {l pre : List (Nat × O × Nat)} {q : Nat} {o : O} {m : Nat} (hk : okRest P N ops pre ((q, o, m) :: l) = true) : ∀ x ∈ l, ∃ pre', One P N ops pre' x.1 x.2.1 x.2.2 ∧ (∀ p ∈ pre', p ∈ pre ∨ p ∈ ((q, o, m) :: l)) ∧ (∀ p ∈ pre, p ∈ pre') ∧ (q, o, m) ∈ pre' := by
  intro x hx
  simp only [okRest, Bool.and_eq_true] at hk
  obtain ⟨pre', h1, h2, h3⟩ := okRest_mem hk.2 x hx
  refine ⟨pre', h1, fun p hp => ?_, fun p hp => h3 p (List.mem_cons_of_mem _ hp), h3 _ List.mem_cons_self⟩
  rcases h2 p hp with h4 | h4
  · rcases List.mem_cons.1 h4 with h5 | h5
    · subst h5; exact .inr List.mem_cons_self
    · exact .inl h5
  · exact .inr (List.mem_cons_of_mem _ h4)
theorem Inv.out {a : Act} {w : World} {hs : List Hs} {rest : List (Nat × O × Nat)} {ps : List Pd} {h : H} {s : St} (hi : Inv P N ops C U G base nw e0 s0 w0 Φ B a w hs rest ps h s) : ∀ r ∈ rest, B r.1 = false := by
  intro r hr
  obtain ⟨pre', h1, h2, h3⟩ := okRest_mem hi.rok r hr
  cases hb : B r.1 with
  | false => rfl
  | true =>
    obtain ⟨p, hp, e⟩ := hi.sub _ hb
    exact absurd e (h1.ne p.t (h3 _ (List.mem_map_of_mem hp)))
theorem cnt_set : ∀ {l : List Bool} {i : Nat}, l[i]? = some false → ((l.set i true).filter (! ·)).length + 1 = (l.filter (! ·)).length
  | [], i, h => by cases h
  | b :: l, 0, h => by
    simp at h; subst h; simp
  | b :: l, i + 1, h => by
    have := cnt_set (l := l) (i := i) (by simpa using h)
    cases b <;> simp at this ⊢ <;> omega
theorem wpAny_inv (hBs : Base P U G C) {Q : Exit → Act → World → Prop} (hQ : ∀ e h s w a, Φ e h → Rel s h w → Step s0 w0 s w → EnvR s w e a → a.defers = [] → a.tmps.size = N → Q .normal a w) :
    ∀ (fuel : Nat) (L : Array Bool) (a : Act) (w : World), L.size = ops.size → (L.toList.filter (! ·)).length ≤ fuel → (∃ hs rest ps h s, Inv P N ops C U G base nw e0 s0 w0 Φ (fun i => L.getD i false) a w hs rest ps h s) → wpAny P .any ops Q fuel L a w := by
  intro fuel
  have fin : ∀ (L : Array Bool) (a : Act) (w : World), L.size = ops.size → (∃ hs rest ps h s, Inv P N ops C U G base nw e0 s0 w0 Φ (fun i => L.getD i false) a w hs rest ps h s) → Region.ready .any ops L = [] → Q .normal a w := by
    intro L a w hL hinv hnil
    obtain ⟨hs, rest, ps, h, s, hi⟩ := hinv
    have noready : ∀ {i : Nat} {op : Oper}, ops[i]? = some op → L.getD i false = false → (∀ e ∈ op.after, Region.binds .any e = true → L.getD e.on false = true) → False := by
      intro i op ho hl he
      have := ready_of hL ho hl he
      rw [hnil] at this; cases this
    have hall : ∀ l, HOk P N ops e0 l → ∀ p ∈ l, L.getD p.i false = true := by
      intro l
      induction l with
      | nil => intro _ p hp; cases hp
      | cons q l ih =>
        intro hk p hp
        obtain ⟨k1, _, ⟨op, k3, _⟩, k4⟩ := hk
        have ih := ih k4
        rcases List.mem_cons.1 hp with e | e
        · subst e
          cases hb : L.getD p.i false with
          | true => rfl
          | false =>
            exfalso
            refine noready k3 hb fun e he hbi => ?_
            obtain ⟨r, hr, hre⟩ := k1.edge op k3 e he hbi
            obtain ⟨x, hx, rfl⟩ := List.mem_map.1 hr
            rw [← hre]; exact ih x hx
        · exact ih p e
    have hhs := hall hs hi.hok
    have hrest : rest = [] := by
      cases rest with
      | nil => rfl
      | cons r tl =>
        exfalso
        have hrok := hi.rok
        obtain ⟨q, o, m⟩ := r
        simp only [okRest, Bool.and_eq_true] at hrok
        have one := okOne_spec hrok.1
        obtain ⟨op, hop, _⟩ := hi.rop (q, o, m) List.mem_cons_self
        refine noready hop (hi.out (q, o, m) List.mem_cons_self) fun e he hbi => ?_
        obtain ⟨r, hr, hre⟩ := one.edge op hop e he hbi
        obtain ⟨x, hx, rfl⟩ := List.mem_map.1 hr
        rw [← hre]; exact hhs x hx
    subst hrest
    have hrun := hi.run
    simp only [rD] at hrun
    have henv := hi.env
    rw [envF_all (B := fun i => L.getD i false) hhs] at henv
    exact hQ _ h s w a hrun hi.rel hi.step henv hi.defers hi.size
  induction fuel with
  | zero =>
    intro L a w hL hcnt hinv
    have hnil : Region.ready .any ops L = [] := by
      cases hr : Region.ready .any ops L with
      | nil => rfl
      | cons x xs =>
        exfalso
        have hx : x ∈ Region.ready .any ops L := by rw [hr]; exact List.mem_cons_self
        obtain ⟨h1, h2, _⟩ := ready_spec hL hx
        have h3 : L.toList[x]? = some false := by
          have h4 : x < L.size := by omega
          simp [Array.getD_eq_getD_getElem?, h4] at h1
          simp [h4, h1]
        have := cnt_set h3
        omega
    exact ⟨hnil, fin L a w hL hinv hnil⟩
  | succ fuel ih =>
    intro L a w hL hcnt hinv
    refine ⟨fin L a w hL hinv, fun i hi => ?_⟩
    obtain ⟨h1, h2, op, h3, h4⟩ := ready_spec hL hi
    obtain ⟨hs, rest, ps, h, s, inv⟩ := hinv
    obtain ⟨hs, rest, ps, inv, hhead⟩ := Inv.drain rest hs ps inv
    have hlt : i < L.size := by omega
    have hset : ∀ j, (L.setIfInBounds i true).getD j false = (L.getD j false || j == i) := getD_set hlt
    have hcnt' : ((L.setIfInBounds i true).toList.filter (! ·)).length ≤ fuel := by
      have h5 : L.toList[i]? = some false := by
        simp [Array.getD_eq_getD_getElem?, hlt] at h1
        simp [hlt, h1]
      have := cnt_set h5
      rw [Array.toList_setIfInBounds]
      omega
    have next : ∀ a' w', (∃ hs rest ps h s, Inv P N ops C U G base nw e0 s0 w0 Φ (fun j => (L.setIfInBounds i true).getD j false) a' w' hs rest ps h s) → wpAny P .any ops Q fuel (L.setIfInBounds i true) a' w' :=
      fun a' w' hx => ih _ a' w' (by simpa using hL) hcnt' hx
    have goal : Once P ops op a w (wpAny P .any ops Q fuel (L.setIfInBounds i true)) Q := by
      rcases inv.cov i h2 with ⟨p, hp, rfl⟩ | ⟨r, hr, rfl⟩
      · exact inv.late hBs hp h1 h3 h4 hset fun a' w' s' hx => next a' w' ⟨_, _, _, _, _, hx⟩
      · rcases hhead with e | ⟨r0, tl, rfl, hact⟩
        · subst e; cases hr
        · obtain ⟨q, o, m⟩ := r0
          rcases List.mem_cons.1 hr with e | e
          · subst e
            exact inv.next hBs hact h3 h4 hset fun a' w' hs' ps' h' s' hx => next a' w' ⟨_, _, _, _, _, hx⟩
          · exfalso
            obtain ⟨pre', k1, k2, k3, k4⟩ := okRest_tail inv.rok r e
            have hbit := k1.acts (q, o, m) k4 hact
            have hq : L.getD q false = false := inv.out (q, o, m) List.mem_cons_self
            obtain ⟨ed, j1, j2, j3⟩ := k1.bits op h3 q hbit
            have hon := h4 ed j1 j2
            rcases j3 with j3 | ⟨p, j4, j5, j6⟩
            · rw [j3, hq] at hon; cases hon
            · rcases k2 p j4 with hp | hp
              · obtain ⟨x, hx, rfl⟩ := List.mem_map.1 hp
                have := inv.clo x hx (by show L.getD x.i false = true; rw [show x.i = ed.on from j5]; exact hon) q j6
                rw [show L.getD q false = true from this] at hq; cases hq
              · have hpo : L.getD p.1 false = false := inv.out p hp
                rw [← j5, hpo] at hon; cases hon
    unfold wpOp
    rw [h3]
    exact goal
theorem ahead_spec {base : Nat} : ∀ (L : List (Nat × O × Nat)) (h : H), (ahead base L h).next = h.next ∧ ∀ l, l < base → (ahead base L h).get l = h.get l
  | [], h => ⟨rfl, fun _ _ => rfl⟩
  | (i, o, m) :: L, h => by
    obtain ⟨h1, h2⟩ := ahead_spec L h
    simp only [ahead]
    split
    · refine ⟨by rw [H.next_set]; exact h1, fun l hl => ?_⟩
      rw [H.get_set, if_neg (by omega)]; exact h2 l hl
    · exact ⟨h1, h2⟩
theorem newsIn_mem : ∀ {L : List (Nat × O × Nat)}, newsIn L = false → ∀ r ∈ L, r.2.1.i.news = false
  | [], _, r, hr => by cases hr
  | (i, o, m) :: L, hn, r, hr => by
    simp only [newsIn, Bool.or_eq_false_iff] at hn
    rcases List.mem_cons.1 hr with e | e
    · subst e; exact hn.1
    · exact newsIn_mem hn.2 r e
theorem Rel.floor {s : St} {h : H} {w : World} (hr : Rel s h w) (L : List (Nat × O × Nat)) (k : Nat) :
    Rel { s with n := h.next + k } (ahead h.next L ⟨h.next + k, h.t⟩) w ∧ Step s w { s with n := h.next + k } w := by
  obtain ⟨h1, h2⟩ := ahead_spec (base := h.next) L ⟨h.next + k, h.t⟩
  have hget : ∀ l, l < h.next → (ahead h.next L ⟨h.next + k, h.t⟩).get l = h.get l := fun l hl => h2 l hl
  have st : Step s w { s with n := h.next + k } w := ⟨⟨⟨fun _ _ h => h, fun _ h => h, rfl, fun l b d m h => .inl ⟨l, d, m, h⟩, fun _ h => .inl h⟩, .refl _ _⟩, Nat.le_trans hr.low (Nat.le_add_right _ _), fun _ _ => rfl⟩
  refine ⟨⟨by rw [h1]; exact Nat.le_refl _, fun l b d m hl => ?_, hr.apart, hr.Flt, fun l1 l2 b d m d2 m2 k1 k2 g1 g2 => ?_, fun l b d m o hl ho => ?_⟩, st⟩
  · rw [h1]
    have := hr.lt l b d m hl
    simp only; omega
  · rw [hget l1 (hr.lt l1 _ _ _ k1).1] at g1
    rw [hget l2 (hr.lt l2 _ _ _ k2).1] at g2
    exact hr.inj l1 l2 b d m d2 m2 k1 k2 g1 g2
  · rw [hget l (hr.lt l _ _ _ hl).1] at ho
    exact ObjR.mono st hr.apart (hr.obj l b d m o hl ho) rfl
theorem rDs_sound (hBs : Base P U G C) {Q : Exit → Act → World → Prop} {e : Env} {h : H} {s : St} {w : World} {a : Act} {L : List (Nat × O × Nat)} (hlen : L.length = ops.size) (hok : okD P N ops L = true) (hco : ∀ r ∈ L, ∃ op, ops[r.1]? = some op ∧ cOper P N ops op = r.2.1)
    (hQ : ∀ e h s w a, Φ e h → Rel s h w → Step s0 w0 s w → EnvR s w e a → a.defers = [] → a.tmps.size = N → Q .normal a w)
    (hΦ : rDs C U G L e h Φ) (hsU : s.U = U) (hr : Rel s h w) (hG : GlobR s w G) (hs : Step s0 w0 s w) (he : EnvR s w e a) (hd : a.defers = []) (hn : a.tmps.size = N) :
    wpAny P .any ops Q ops.size (Array.replicate ops.size false) a w := by
  unfold okD at hok
  simp only [Bool.and_eq_true, List.all_eq_true, List.any_eq_true, List.mem_range, beq_iff_eq] at hok
  obtain ⟨hrok, hcov⟩ := hok
  have hB0 : ∀ i, (Array.replicate ops.size false).getD i false = false := by
    intro i
    simp only [Array.getD_eq_getD_getElem?]
    by_cases hi : i < ops.size <;> simp [hi]
  have mk : ∀ (nw : Bool) (h1 : H) (s1 : St), rD C U G h.next L [] e h1 Φ → s1.U = U → Rel s1 h1 w → Step s w s1 w → (∀ r ∈ L, r.2.1.i.news = true → nw = true) → (nw = true → h.next + ops.size ≤ s1.n) → (∀ l, h.next ≤ l → s1.ρ l = none) →
      wpAny P .any ops Q ops.size (Array.replicate ops.size false) a w := by
    intro nw h1 s1 k1 k2 k3 k4 k5 k6 k7
    refine wpAny_inv (e0 := e) (base := h.next) (nw := nw) (Φ := Φ) hBs hQ ops.size _ a w (by simp) (by simp) ⟨[], L, [], h1, s1, ?_⟩
    refine { hok := trivial, rok := hrok, rop := hco, cov := fun i hi => .inr ?_, run := k1, sub := fun i hi => ?_, clo := fun p hp => (by cases hp), fut := fun p hp => (by cases hp), new := fun r hr hn => ⟨k5 r hr hn, k7 _ (Nat.le_add_right _ _)⟩, top := k6, bot := ?_, hsU := k2, rel := k3, glob := hG.mono k4 hr.apart, step := hs.trans k4, env := he.mono k4 hr.apart, defers := hd, size := hn }
    · obtain ⟨r, h1, h2⟩ := hcov i hi
      exact ⟨r, h1, h2⟩
    · rw [hB0] at hi; cases hi
    · exact Nat.le_trans hs.n hr.low
  have hnone : ∀ l, h.next ≤ l → s.ρ l = none := by
    intro l hl
    cases hx : s.ρ l with
    | none => rfl
    | some x =>
      obtain ⟨b, d, m⟩ := x
      have := (hr.lt l b d m hx).1
      omega
  unfold rDs at hΦ
  split at hΦ
  · rename_i hnews
    obtain ⟨q1, q2⟩ := hr.floor L L.length
    exact mk true _ { s with n := h.next + L.length } hΦ hsU q1 q2 (fun _ _ _ => rfl) (fun _ => by simp only; omega) hnone
  · rename_i hnews
    exact mk false h s hΦ hsU hr (Step.refl _ _) (fun r hr hn => by
      have := newsIn_mem (by simpa using hnews) r hr
      rw [this] at hn; cases hn) (fun hh => by cases hh) hnone
end
/-! ### code -/
def cReg (P : Program) (N : Nat) (ops : List Oper) (draw : Bool) (live : List Nat) : S :=
  if draw then
    let L := cRegD P N ops
    if L.length == ops.length && okD P N ops.toArray L then .regD L live else .bad
  else .reg (ops.map (cOper P N ops.toArray)) live
def comp (P : Program) (N : Nat) : Code → List (List Nat) → S × List (List Nat)
  | .skip, l => (.skip, l)
  | .region _ ops d, l => (cReg P N ops.toList d (l.headD []), l.tail)
  | .seq a b, l => match comp P N a l with
    | (x, l) => match comp P N b l with
      | (y, l) => (.seq x y, l)
  | .cond c a b, l => match comp P N a l with
    | (x, l) => match comp P N b l with
      | (y, l) => match cX c with
        | some c => (.cond c x y, l)
        | none => (.bad, l)
  | .block id b, l => match comp P N b l with
    | (x, l) => (.block id x, l)
  | .loop b, l => match comp P N b l with
    | (x, l) => (.loop x, l)
  | .exit id, l => (.exit id, l)
  | .ret, l => (.ret, l)
  | _, l => (.bad, l)
section
variable {P : Program} {N : Nat} {G : Nat → AV} {U : List (TypeId × TypeId)} {C : CC} {s0 : St} {w0 : World}
theorem W_sound (hBs : Base P U G C) (hm : P.follows .mixedOrders = true) (hG0 : GlobR s0 w0 G) (hap : ∀ l b d m, s0.ρ l = some (b, d, m) → ¬ s0.F b) (hU0 : s0.U = U) : ∀ (c : Code) (l : List (List Nat)) (Φ : Exit → Env → H → Prop) (e : Env) (h : H) (s : St) (w : World) (a : Act), W C U G (comp P N c l).1 e h Φ → Rel s h w → Step s0 w0 s w → EnvR s w e a → a.defers = [] → a.tmps.size = N →
    c.wp P (Post s0 w0 N Φ) a w := by
  intro c
  induction c with
  | skip =>
    intro l Φ e h s w a hW hr hs he hd hn
    exact wp_skip ⟨e, h, s, hW, hr, hs, he, hd, hn⟩
  | exit id =>
    intro l Φ e h s w a hW hr hs he hd hn
    exact wp_exit ⟨e, h, s, hW, hr, hs, he, hd, hn⟩
  | ret =>
    intro l Φ e h s w a hW hr hs he hd hn
    exact wp_ret ⟨e, h, s, hW, hr, hs, he, hd, hn⟩
  | region id ops d =>
    intro l Φ e h s w a hW hr hs he hd hn
    have hsU : s.U = U := hs.ext.U.trans hU0
    have hG : GlobR s w G := hG0.mono hs hap
    simp only [comp, cReg] at hW
    split at hW
    · rename_i hdr
      subst hdr
      split at hW
      · rename_i hok
        simp only [Bool.and_eq_true, beq_iff_eq] at hok
        obtain ⟨ok1, ok2⟩ := hok
        simp only [W] at hW
        refine wp_region_any hm ?_
        have hr' : Rel s h { w with drawn := w.drawn + 1 } := hr.drew
        have hs' : Step s w s { w with drawn := w.drawn + 1 } := Step.drew s w
        refine rDs_sound (Φ := fun e h => Φ .normal (e.keep (l.headD [])) h) (s0 := s0) (w0 := w0) hBs (by rw [ok1]; simp) (by simpa using ok2) ?_ ?_ hW hsU hr' (hG.mono hs' hr.apart) (hs.trans hs') (he.mono hs' hr.apart) hd hn
        · intro r hr1
          have hok3 := ok2
          simp only [okD, Bool.and_eq_true] at hok3
          obtain ⟨pre', one, _⟩ := okRest_mem hok3.1 r hr1
          obtain ⟨op, hop⟩ := one.op
          have hop' : ops[r.1]? = some op := by simpa using hop
          refine ⟨op, hop', ?_⟩
          simp only [cRegD, List.mem_map] at hr1
          obtain ⟨i, _, rfl⟩ := hr1
          have hop2 : ops.toList[i]? = some op := by simpa using hop'
          simp only [List.getD_eq_getElem?_getD, List.getElem?_map, hop2, Option.map_some, Option.getD_some, Array.toArray_toList]
        · intro e h s w a k1 k2 k3 k4 k5 k6
          exact ⟨_, h, s, k1, k2, k3, k4.keep _, k5, k6⟩
      · exact hW.elim
    · rename_i hdr
      have hdr' : d = false := by simpa using hdr
      subst hdr'
      simp only [W] at hW
      refine wp_region_list ?_
      refine rP_sound (C := C) (Φ := fun e h => Φ .normal (e.keep (l.headD [])) h) (s0 := s0) (w0 := w0) (N := N) hBs ?_ ops.toList e h s w a (by simpa using hW) hsU hr hG hs he hd hn
      intro e h s w a k1 k2 k3 k4 k5 k6
      exact ⟨_, h, s, k1, k2, k3, k4.keep _, k5, k6⟩
  | seq x y ihx ihy =>
    intro l Φ e h s w a hW hr hs he hd hn
    simp only [comp, W] at hW
    refine wp_seq (Code.wp_mono ?_ (ihx l _ e h s w a hW hr hs he hd hn))
    rintro ex a' w' ⟨e', h', s', k1, k2, k3, k4, k5, k6⟩
    cases ex with
    | normal => exact ihy _ Φ e' h' s' w' a' k1 k2 k3 k4 k5 k6
    | _ => exact ⟨e', h', s', k1, k2, k3, k4, k5, k6⟩
  | cond c x y ihx ihy =>
    intro l Φ e h s w a hW hr hs he hd hn
    have hG : GlobR s w G := hG0.mono hs hap
    simp only [comp] at hW
    split at hW
    · rename_i c' hc
      have hv := cX_VR hG he hc
      simp only [W] at hW
      split at hW
      · rename_i hb
        rw [hb] at hv
        exact wp_cond_true (VR_bool hv) (ihx l Φ e h s w a hW hr hs he hd hn)
      · rename_i hb
        rw [hb] at hv
        exact wp_cond_false (VR_bool hv) (ihy _ Φ e h s w a hW hr hs he hd hn)
      · exact hW.elim
    · exact hW.elim
  | block id b ih =>
    intro l Φ e h s w a hW hr hs he hd hn
    simp only [comp, W] at hW
    refine wp_block (Code.wp_mono ?_ (ih l _ e h s w a hW hr hs he hd hn))
    rintro ex a' w' ⟨e', h', s', k1, k2, k3, k4, k5, k6⟩
    cases ex with
    | exit i =>
      simp only at k1
      simp only [Exit.inBlock]
      split
      · rename_i hi; rw [if_pos hi] at k1; exact ⟨e', h', s', k1, k2, k3, k4, k5, k6⟩
      · rename_i hi; rw [if_neg hi] at k1; exact ⟨e', h', s', k1, k2, k3, k4, k5, k6⟩
    | _ => exact ⟨e', h', s', k1, k2, k3, k4, k5, k6⟩
  | loop b ih =>
    intro l Φ e h s w a hW hr hs he hd hn
    simp only [comp, W] at hW
    obtain ⟨n, hW⟩ := hW
    refine wp_loop_rounds n ?_
    induction n generalizing e h s w a with
    | zero => exact hW.elim
    | succ n ihn =>
      rw [rounds_succ]
      refine Code.wp_mono ?_ (ih l _ e h s w a hW hr hs he hd hn)
      rintro ex a' w' ⟨e', h', s', k1, k2, k3, k4, k5, k6⟩
      cases ex with
      | normal => exact ihn e' h' s' w' a' k2 k3 k4 k5 k6 k1
      | _ => exact ⟨e', h', s', k1, k2, k3, k4, k5, k6⟩
  | _ =>
    intro l Φ e h s w a hW
    simp only [comp, W] at hW
end
end Go.Eng
namespace Go.Eng
inductive RV where
  | t (n : Nat)
  | c (a sz : Nat) (ag : Bool)
  deriving Inhabited
def cRV (P : Program) : ResultVar → Option RV
  | .tmp t => some (.t t)
  | .cell a t => match Tab.agg P t, size P t with
    | some b, some n => some (.c a n b)
    | _, _ => none
def cRVs (P : Program) : List ResultVar → Option (List RV)
  | [] => some []
  | r :: rs => match cRV P r, cRVs P rs with
    | some x, some xs => some (x :: xs)
    | _, _ => none
structure FI where
  N : Nat
  rs : List RV
  S : S
  deriving Inhabited
def resOne (U : List (TypeId × TypeId)) (G : Nat → AV) (e : Env) (h : H) : RV → Option AV
  | .t n => some (e.get n)
  | .c a n b => evQ U G (.ld n b (.t a)) e h
def resAll (U : List (TypeId × TypeId)) (G : Nat → AV) (e : Env) (h : H) : List RV → Option (List AV)
  | [] => some []
  | r :: rs => match resOne U G e h r, resAll U G e h rs with
    | some x, some xs => some (x :: xs)
    | _, _ => none
def resE (U : List (TypeId × TypeId)) (G : Nat → AV) (e : Env) (h : H) : List RV → Option AV
  | [r] => resOne U G e h r
  | rs => (resAll U G e h rs).map .tup
def FnOk (P : Program) (f : FuncId) (fi : FI) : Prop :=
  ∃ fn c lv, P.funcs[f]? = some fn ∧ fn.body = some c ∧ (fn.name == "runtime.NumGoroutine") = false ∧ fn.ntmps = fi.N ∧ (comp P fi.N c lv).1 = fi.S ∧ cRVs P fn.results.toList = some fi.rs ∧ fi.rs.length ≤ 4
section
variable {P : Program} {N : Nat} {G : Nat → AV} {U : List (TypeId × TypeId)} {C : CC}
def params : List AV → Nat → Env
  | [], _ => []
  | x :: xs, i => (i, x) :: params xs (i + 1)
theorem get_params : ∀ (xs : List AV) (i t : Nat), (params xs i).get t = if i ≤ t then (xs[t - i]?).getD .any else .any
  | [], i, t => by simp [params, Env.get]
  | x :: xs, i, t => by
    simp only [params, Env.get_cons]
    by_cases h : i = t
    · subst h; simp
    · rw [if_neg h, get_params xs (i + 1) t]
      by_cases h2 : i ≤ t
      · have h3 : i + 1 ≤ t := by omega
        have h4 : t - i = (t - (i + 1)) + 1 := by omega
        rw [if_pos h2, if_pos h3, h4, List.getElem?_cons_succ]
      · rw [if_neg h2, if_neg (by omega)]
theorem EnvR_params {s : St} {w : World} {xs : List AV} {vs : Array Value} (h : VRs s w xs vs.toList) (k : Nat) : EnvR s w (params xs 0) { tmps := vs ++ Array.replicate k undef, defers := [] } := by
  intro t
  rw [get_params, if_pos (Nat.zero_le _), Nat.sub_zero]
  have hl := VRs_length h
  simp only [Array.length_toList] at hl
  by_cases ht : t < xs.length
  · obtain ⟨r, h1, h2⟩ := VRs_get h (List.getElem?_eq_getElem ht)
    rw [List.getElem?_eq_getElem ht, Option.getD_some]
    have h3 : t < vs.size := by omega
    have h4 : (vs ++ Array.replicate k undef).getD t undef = r := by
      simp only [Array.getD_eq_getD_getElem?]
      rw [Array.getElem?_append_left h3]
      rw [Array.getElem?_toList] at h1
      rw [h1]; rfl
    rw [h4]; exact h2
  · rw [List.getElem?_eq_none (by omega)]
    simp only [Option.getD_none, VR]
def rdOne (tmps : Array Value) : ResultVar → Sem Value
  | .tmp t => pure (tmps.getD t undef)
  | .cell a t => do loadVar t (← asAddr (tmps.getD a undef))
theorem rdOne_run (hU : ∀ t u, U.contains (t, u) = true → size P t = some 2 ∧ ∀ k, liesAt P P.depth t (k + 1) 0 u 1 = true) {s : St} {h : H} {w : World} {e : Env} {a : Act} (hsU : s.U = U) (hr : Rel s h w) (hG : GlobR s w G) (he : EnvR s w e a)
    {r : ResultVar} {x : RV} (hc : cRV P r = some x) {v : AV} (hv : resOne U G e h x = some v) : ∃ z, (rdOne a.tmps r).run P w = .ok z w ∧ VR s w v z := by
  cases r with
  | tmp t =>
    simp only [cRV] at hc
    injection hc with hc; subst hc
    simp only [resOne] at hv
    injection hv with hv; subst hv
    exact ⟨_, rfl, he t⟩
  | cell ad t =>
    simp only [cRV] at hc
    split at hc
    · rename_i b n hb hn
      injection hc with hc; subst hc
      simp only [resOne] at hv
      let o : Oper := { (default : Oper) with op := .load t (.tmp ad) }
      have hco : cOp P o.op = some (.ld n b (.t ad)) := by
        show cOp P (.load t (.tmp ad)) = _
        simp only [cOp, hb, hn, cX]; rfl
      obtain ⟨z, k1, k2⟩ := evQ_sound hU hsU hr hG he (o := o) rfl hco hv
      refine ⟨z, ?_, k2⟩
      have hp : ∃ ad', a.tmps.getD ad undef = .pointer (some ad') := by
        have hx := he ad
        simp only [evQ, X.ev] at hv
        split at hv
        · rename_i l off hl
          rw [hl] at hx
          obtain ⟨b, d, m, _, h2⟩ := VR_ptr hx
          exact ⟨_, h2⟩
        · rename_i cs hl
          rw [hl] at hx
          simp only [VR] at hx
          obtain ⟨a', rs, h2, _⟩ := hx
          exact ⟨_, h2⟩
        · cases hv
      obtain ⟨ad', hp⟩ := hp
      have hp' : a.eval (.tmp ad) = .pointer (some ad') := hp
      have k3 : ((Instr.loadAt t (a.eval (.tmp ad))) >>= fun v => pure (Next.value v)).run P w = .ok (.value z) w := k1
      rw [hp'] at k3
      simp only [Instr.loadAt, Instr.sureAddr, Sem.run_bind, Sem.run_pure, Result.andThen_ok] at k3
      simp only [rdOne, hp, asAddr, Sem.run_bind, Sem.run_pure, Result.andThen_ok]
      cases hx : (loadVar t ad').run P w with
      | ok y w1 =>
        rw [hx] at k3
        simp only [Result.andThen_ok, Sem.run_pure, Result.ok.injEq, Next.value.injEq] at k3
        rw [k3.1, k3.2]
      | halt y w1 => rw [hx] at k3; cases k3
    · cases hc
theorem results_run (hU : ∀ t u, U.contains (t, u) = true → size P t = some 2 ∧ ∀ k, liesAt P P.depth t (k + 1) 0 u 1 = true) {s : St} {h : H} {w : World} {e : Env} {a : Act} (hsU : s.U = U) (hr : Rel s h w) (hG : GlobR s w G) (he : EnvR s w e a)
    {fn : Func} {rs : List RV} (hc : cRVs P fn.results.toList = some rs) (hlen : rs.length ≤ 4) {v : AV} (hv : resE U G e h rs = some v) : ∃ z, (results fn a.tmps).run P w = .ok z w ∧ VR s w v z := by
  have hdef : results fn a.tmps = (do
      let vs ← fn.results.mapM (rdOne a.tmps)
      pure (if h : vs.size = 1 then vs[0] else .tuple vs)) := by
    unfold results
    congr 1
  rw [hdef]
  generalize hR : fn.results = R at *
  obtain ⟨l⟩ := R
  simp only at hc
  cases l with
  | nil =>
    simp only [cRVs] at hc
    injection hc with hc; subst hc
    simp only [resE, resAll, Option.map_some] at hv
    injection hv with hv; subst hv
    refine ⟨.tuple #[], ?_, ?_⟩
    · simp
    · simp only [VR]; exact ⟨#[], rfl, by simp [VRs]⟩
  | cons r1 l =>
    simp only [cRVs] at hc
    split at hc <;> first | (cases hc; done) | skip
    rename_i x1 xs1 h1 hc1
    injection hc with hc; subst hc
    cases l with
    | nil =>
      simp only [cRVs] at hc1
      injection hc1 with hc1; subst hc1
      simp only [resE] at hv
      obtain ⟨z, k1, k2⟩ := rdOne_run hU hsU hr hG he h1 hv
      exact ⟨z, by simp [k1], k2⟩
    | cons r2 l =>
      simp only [cRVs] at hc1
      split at hc1 <;> first | (cases hc1; done) | skip
      rename_i x2 xs2 h2 hc2
      injection hc1 with hc1; subst hc1
      simp only [resE] at hv
      obtain ⟨vs, hw, hvs⟩ := Option.map_eq_some_iff.1 hv
      clear hv
      subst hvs
      simp only [resAll] at hw
      split at hw <;> first | (cases hw; done) | skip
      rename_i v1 vs1 e1 hv1
      injection hw with hw; subst hw
      obtain ⟨z1, k1, k2⟩ := rdOne_run hU hsU hr hG he h1 e1
      split at hv1 <;> first | (cases hv1; done) | skip
      rename_i v2 vs2 e2 hv2
      injection hv1 with hv1; subst hv1
      obtain ⟨z2, k3, k4⟩ := rdOne_run hU hsU hr hG he h2 e2
      cases l with
      | nil =>
        simp only [cRVs] at hc2
        injection hc2 with hc2; subst hc2
        simp only [resAll] at hv2
        injection hv2 with hv2; subst hv2
        refine ⟨.tuple #[z1, z2], by simp [k1, k3], ?_⟩
        simp only [VR]; exact ⟨#[z1, z2], rfl, by simp only [VRs]; exact ⟨z1, [z2], rfl, k2, z2, [], rfl, k4, rfl⟩⟩
      | cons r3 l =>
        simp only [cRVs] at hc2
        split at hc2 <;> first | (cases hc2; done) | skip
        rename_i x3 xs3 h3 hc3
        injection hc2 with hc2; subst hc2
        simp only [resAll] at hv2
        split at hv2 <;> first | (cases hv2; done) | skip
        rename_i v3 vs3 e3 hv3
        injection hv2 with hv2; subst hv2
        obtain ⟨z3, k5, k6⟩ := rdOne_run hU hsU hr hG he h3 e3
        cases l with
        | nil =>
          simp only [cRVs] at hc3
          injection hc3 with hc3; subst hc3
          simp only [resAll] at hv3
          injection hv3 with hv3; subst hv3
          refine ⟨.tuple #[z1, z2, z3], by simp [k1, k3, k5], ?_⟩
          simp only [VR]; exact ⟨#[z1, z2, z3], rfl, by simp only [VRs]; exact ⟨z1, [z2, z3], rfl, k2, z2, [z3], rfl, k4, z3, [], rfl, k6, rfl⟩⟩
        | cons r4 l =>
          simp only [cRVs] at hc3
          split at hc3 <;> first | (cases hc3; done) | skip
          rename_i x4 xs4 h4 hc4
          injection hc3 with hc3; subst hc3
          simp only [resAll] at hv3
          split at hv3 <;> first | (cases hv3; done) | skip
          rename_i v4 vs4 e4 hv4
          injection hv3 with hv3; subst hv3
          obtain ⟨z4, k7, k8⟩ := rdOne_run hU hsU hr hG he h4 e4
          have hx4 : xs4 = [] := by
            cases xs4 with
            | nil => rfl
            | cons y ys => simp at hlen
          subst hx4
          have hl : l = [] := by
            cases l with
            | nil => rfl
            | cons y ys =>
              simp only [cRVs] at hc4
              split at hc4 <;> cases hc4
          subst hl
          simp only [resAll] at hv4
          injection hv4 with hv4; subst hv4
          refine ⟨.tuple #[z1, z2, z3, z4], by simp [k1, k3, k5, k7], ?_⟩
          simp only [VR]; exact ⟨#[z1, z2, z3, z4], rfl, by simp only [VRs]; exact ⟨z1, [z2, z3, z4], rfl, k2, z2, [z3, z4], rfl, k4, z3, [z4], rfl, k6, z4, [], rfl, k8, rfl⟩⟩
theorem Spec_of (hBs : Base P U G C) (hm : P.follows .mixedOrders = true) {f : FuncId} {fi : FI} (hf : FnOk P f fi) {xs : List AV} (hlen : xs.length ≤ fi.N) {h : H} {Ψ : AV → H → Prop}
    (hW : W C U G fi.S (params xs 0) h fun x e h' => match x with
      | .normal | .ret => ∃ v, resE U G e h' fi.rs = some v ∧ Ψ v h'
      | _ => False) : Spec P U G f xs h Ψ := by
  obtain ⟨fn, c, lv, f1, f2, f3, f4, f5, f6, f7⟩ := hf
  intro s w vs hsU hr hG hvs
  have hl := VRs_length hvs
  simp only [Array.length_toList] at hl
  have hcall : (callFunc f vs).run P w = .ok (.enter f vs) w := by
    have f3' : fn.name ≠ "runtime.NumGoroutine" := by simpa using f3
    simp [callFunc, f1, f3', f2]
  unfold Callee
  rw [hcall]
  simp only
  refine calls_of_wp f1 f2 ?_
  have henv := EnvR_params hvs (fn.ntmps - vs.size)
  rw [← f5] at hW
  have hwp := W_sound (s0 := s) (w0 := w) (N := fi.N) hBs hm hG hr.apart hsU c lv _ (params xs 0) h s w { tmps := vs ++ Array.replicate (fn.ntmps - vs.size) undef, defers := [] } hW hr (Step.refl _ _) henv rfl (by simp only [Array.size_append, Array.size_replicate]; omega)
  refine Code.wp_mono ?_ hwp
  rintro x a' w' ⟨e', h', s', k1, k2, k3, k4, k5, k6⟩
  have fin : (∃ v, resE U G e' h' fi.rs = some v ∧ Ψ v h') → a'.defers = [] ∧ ∃ v, (results fn a'.tmps).run P w' = .ok v w' ∧ ∃ v_1 h'_1 s'_1, Ψ v_1 h'_1 ∧ Rel s'_1 h'_1 w' ∧ Step s w s'_1 w' ∧ VR s'_1 w' v_1 v := by
    rintro ⟨v, q1, q2⟩
    obtain ⟨z, q3, q4⟩ := results_run hBs.hU (k3.ext.U.trans hsU) k2 (hG.mono k3 hr.apart) k4 f6 f7 q1
    exact ⟨k5, z, q3, v, h', s', q2, k2, k3, q4⟩
  cases x with
  | normal => exact fin k1
  | ret => exact fin k1
  | _ => exact k1.elim
theorem Spec.mono {f : FuncId} {xs : List AV} {h : H} {Ψ Ψ' : AV → H → Prop} (hs : Spec P U G f xs h Ψ) (hk : ∀ v h', Ψ v h' → Ψ' v h') : Spec P U G f xs h Ψ' :=
  fun s w vs h1 h2 h3 h4 => (hs s w vs h1 h2 h3 h4).mono fun _ _ ⟨v, h', s', q1, q2, q3, q4⟩ => ⟨v, h', s', hk _ _ q1, q2, q3, q4⟩
end
end Go.Eng
namespace Go.Eng
mutual
def AV.beq : AV → AV → Bool
  | .any, .any => true
  | .bool a, .bool b => a == b
  | .int k a, .int k' b => k == k' && decide (a = b)
  | .str a, .str b => decide (a = b)
  | .nilp, .nilp | .nils, .nils | .nilm, .nilm | .nilf, .nilf | .nili, .nili => true
  | .ptr l o, .ptr l' o' => l == l' && o == o'
  | .fptr a, .fptr b => beqL a b
  | .sl l o z n c x, .sl l' o' z' n' c' x' => l == l' && o == o' && z == z' && n == n' && c == c' && x == x'
  | .fsl f z a, .fsl f' z' b => f == f' && z == z' && beqL a b
  | .map l, .map l' => l == l'
  | .fn f a b, .fn f' a' b' => f == f' && beqL a a' && beqL b b'
  | .iface t a, .iface t' b => t == t' && AV.beq a b
  | .agg a, .agg b => beqL a b
  | .tup a, .tup b => beqL a b
  | _, _ => false
def beqL : List AV → List AV → Bool
  | [], [] => true
  | a :: aas, b :: bs => AV.beq a b && beqL aas bs
  | _, _ => false
end
mutual
theorem AV.beq_eq : ∀ (a b : AV), AV.beq a b = true → a = b
  | .any, b, h => by cases b <;> first | rfl | (simp [AV.beq] at h)
  | .nilp, b, h => by cases b <;> first | rfl | (simp [AV.beq] at h)
  | .nils, b, h => by cases b <;> first | rfl | (simp [AV.beq] at h)
  | .nilm, b, h => by cases b <;> first | rfl | (simp [AV.beq] at h)
  | .nilf, b, h => by cases b <;> first | rfl | (simp [AV.beq] at h)
  | .nili, b, h => by cases b <;> first | rfl | (simp [AV.beq] at h)
  | .bool a, b, h => by cases b <;> simp [AV.beq] at h; rw [h]
  | .int k a, b, h => by cases b <;> simp [AV.beq] at h; rw [h.1, h.2]
  | .str a, b, h => by cases b <;> simp [AV.beq] at h; rw [h]
  | .ptr l o, b, h => by cases b <;> simp [AV.beq] at h; rw [h.1, h.2]
  | .map l, b, h => by cases b <;> simp [AV.beq] at h; rw [h]
  | .sl l o z n c x, b, h => by
    cases b <;> simp [AV.beq] at h
    obtain ⟨⟨⟨⟨⟨h1, h2⟩, h3⟩, h4⟩, h5⟩, h6⟩ := h
    rw [h1, h2, h3, h4, h5, h6]
  | .fptr a, b, h => by cases b <;> simp [AV.beq] at h; rw [beqL_eq _ _ h]
  | .fsl f z a, b, h => by cases b <;> simp [AV.beq] at h; rw [h.1.1, h.1.2, beqL_eq _ _ h.2]
  | .fn f a c, b, h => by cases b <;> simp [AV.beq] at h; rw [h.1.1, beqL_eq _ _ h.1.2, beqL_eq _ _ h.2]
  | .iface t a, b, h => by cases b <;> simp [AV.beq] at h; rw [h.1, AV.beq_eq _ _ h.2]
  | .agg a, b, h => by cases b <;> simp [AV.beq] at h; rw [beqL_eq _ _ h]
  | .tup a, b, h => by cases b <;> simp [AV.beq] at h; rw [beqL_eq _ _ h]
theorem beqL_eq : ∀ (a b : List AV), beqL a b = true → a = b
  | [], b, h => by cases b <;> first | rfl | (simp [beqL] at h)
  | x :: a, b, h => by
    cases b <;> simp [beqL] at h
    rw [AV.beq_eq _ _ h.1, beqL_eq _ _ h.2]
end
abbrev CF := FuncId → List AV → H → Option (AV × H)
def runA (F : CF) (U : List (TypeId × TypeId)) (G : Nat → AV) (o : O) (e : Env) (h : H) : Option (AV × H) :=
  match gd o e with
  | none => none
  | some false => some (.tup [], h)
  | some true => match callOf G e o.i with
    | some (f, xs) => F f xs h
    | none => evE U G o.i e h
def runP (F : CF) (U : List (TypeId × TypeId)) (G : Nat → AV) : List O → Env → H → Option (Env × H)
  | [], e, h => some (e, h)
  | o :: l, e, h =>
    if o.i.acts || o.i.news then match runA F U G o e h with
      | some (v, h') => runP F U G l (e.put o.d v) h'
      | none => none
    else match qv U G o e h with
      | some v => runP F U G l (e.put o.d v) h
      | none => none
def okB (U : List (TypeId × TypeId)) (G : Nat → AV) (h : H) (p : Pd) : Bool :=
  match p.o.i with
  | .new z t => match p.v with
    | .ptr l 0 => match h.get l with
      | some (.cells z' t' (some 0)) => beqL z z' && t == t'
      | _ => false
    | _ => false
  | _ => match qv U G p.o p.e h with
    | some v => AV.beq v p.v
    | none => false
def okBs (U : List (TypeId × TypeId)) (G : Nat → AV) (h : H) (m : Nat) : List Pd → Bool
  | [] => true
  | p :: ps => (m.testBit p.i || okB U G h p) && okBs U G h m ps
def runD (F : CF) (U : List (TypeId × TypeId)) (G : Nat → AV) (base : Nat) : List (Nat × O × Nat) → List Pd → Env → H → Option (Env × H)
  | [], _, e, h => some (e, h)
  | (i, o, m) :: l, ps, e, h =>
    if o.i.acts then match runA F U G o e h with
      | some (v, h') => if okBs U G h' m ps then runD F U G base l (still m ps) (e.put o.d v) h' else none
      | none => none
    else if o.i.news then if okB U G h ⟨i, o, e, .ptr (base + i) 0⟩ then runD F U G base l (⟨i, o, e, .ptr (base + i) 0⟩ :: ps) (e.put o.d (.ptr (base + i) 0)) h else none
    else match qv U G o e h with
      | some v => runD F U G base l (if o.i.reads then ⟨i, o, e, v⟩ :: ps else ps) (e.put o.d v) h
      | none => none
def runDs (F : CF) (U : List (TypeId × TypeId)) (G : Nat → AV) (l : List (Nat × O × Nat)) (e : Env) (h : H) : Option (Env × H) :=
  if newsIn l then runD F U G h.next l [] e (ahead h.next l ⟨h.next + l.length, h.t⟩) else runD F U G h.next l [] e h
def runS (F : CF) (U : List (TypeId × TypeId)) (G : Nat → AV) (k : Nat) : S → Env → H → Option (Exit × Env × H)
  | .skip, e, h => some (.normal, e, h)
  | .reg ops live, e, h => match runP F U G ops e h with
    | some (e, h) => some (.normal, e.keep live, h)
    | none => none
  | .regD ops live, e, h => match runDs F U G ops e h with
    | some (e, h) => some (.normal, e.keep live, h)
    | none => none
  | .seq a b, e, h => match runS F U G k a e h with
    | some (.normal, e, h) => runS F U G k b e h
    | r => r
  | .cond c a b, e, h => match c.ev G e with
    | .bool true => runS F U G k a e h
    | .bool false => runS F U G k b e h
    | _ => none
  | .block id b, e, h => match runS F U G k b e h with
    | some (.exit i, e, h) => if i = id then some (.normal, e, h) else some (.exit i, e, h)
    | r => r
  | .loop b, e, h => (Nat.rec (motive := fun _ => Env → H → Option (Exit × Env × H)) (fun _ _ => none) (fun _ L e h => match runS F U G k b e h with
    | some (.normal, e, h) => L e h
    | r => r) k) e h
  | .exit id, e, h => some (.exit id, e, h)
  | .ret, e, h => some (.ret, e, h)
  | .bad, _, _ => none
def runF (T : FuncId → Option FI) (nat : CF) (U : List (TypeId × TypeId)) (G : Nat → AV) (k n : Nat) : CF :=
  Nat.rec (motive := fun _ => CF) (fun _ _ _ => none) (fun _ F f xs h => match T f with
    | none => nat f xs h
    | some fi => if xs.length ≤ fi.N then match runS F U G k fi.S (params xs 0) h with
        | some (.normal, e, h) => (resE U G e h fi.rs).map fun v => (v, h)
        | some (.ret, e, h) => (resE U G e h fi.rs).map fun v => (v, h)
        | _ => none
      else none) n
section
variable {P : Program} {G : Nat → AV} {U : List (TypeId × TypeId)} {F : CF}
def CC.of (F : CF) : CC := fun f xs h K => ∃ v h', F f xs h = some (v, h') ∧ K v h'
theorem runA_sound {o : O} {e : Env} {h : H} {v : AV} {h' : H} (hr : runA F U G o e h = some (v, h')) {K : AV → H → Prop} (hk : K v h') : act (CC.of F) U G o e h K := by
  unfold runA at hr
  unfold act
  split at hr
  · cases hr
  · rename_i hg
    injection hr with hr; injection hr with h1 h2
    subst h1; subst h2
    simp only [hg]
    exact hk
  · rename_i hg
    simp only [hg]
    split at hr
    · rename_i f xs hc
      simp only [hc]
      exact ⟨v, h', hr, hk⟩
    · rename_i hc
      simp only [hc, hr]
      exact hk
theorem runP_sound : ∀ {l : List O} {e : Env} {h : H} {e' : Env} {h' : H} {Φ : Env → H → Prop}, runP F U G l e h = some (e', h') → Φ e' h' → rP (CC.of F) U G l e h Φ
  | [], e, h, e', h', Φ, hr, hk => by
    simp only [runP] at hr
    injection hr with hr; injection hr with h1 h2
    subst h1; subst h2
    exact hk
  | o :: l, e, h, e', h', Φ, hr, hk => by
    simp only [runP] at hr
    simp only [rP]
    split at hr
    · rename_i hact
      rw [if_pos hact]
      split at hr
      · rename_i v h1 hra
        exact runA_sound hra (runP_sound hr hk)
      · cases hr
    · rename_i hact
      rw [if_neg hact]
      split at hr
      · rename_i v hq
        simp only [hq]
        exact runP_sound hr hk
      · cases hr
theorem okB_sound {h : H} {p : Pd} (hb : okB U G h p = true) : okAt U G h p := by
  unfold okB at hb
  unfold okAt
  obtain ⟨i, ⟨d, op, g⟩, e, v⟩ := p
  cases op with
  | new z t =>
    simp only at hb ⊢
    split at hb
    · rename_i l
      split at hb
      · rename_i z' t' hg
        simp only [Bool.and_eq_true, beq_iff_eq] at hb
        simp only
        rw [hg, beqL_eq _ _ hb.1, hb.2]
      · cases hb
    · cases hb
  | _ =>
    simp only at hb ⊢
    split at hb
    · rename_i v hq
      rw [hq, AV.beq_eq _ _ hb]
    · cases hb
theorem okBs_sound {h : H} {m : Nat} : ∀ {ps : List Pd}, okBs U G h m ps = true → okAll U G h m ps
  | [], _ => trivial
  | p :: ps, hb => by
    simp only [okBs, Bool.and_eq_true, Bool.or_eq_true] at hb
    exact ⟨hb.1.imp id okB_sound, okBs_sound hb.2⟩
theorem runD_sound {base : Nat} : ∀ {l : List (Nat × O × Nat)} {ps : List Pd} {e : Env} {h : H} {e' : Env} {h' : H} {Φ : Env → H → Prop}, runD F U G base l ps e h = some (e', h') → Φ e' h' → rD (CC.of F) U G base l ps e h Φ
  | [], ps, e, h, e', h', Φ, hr, hk => by
    simp only [runD] at hr
    injection hr with hr; injection hr with h1 h2
    subst h1; subst h2
    exact hk
  | (i, o, m) :: l, ps, e, h, e', h', Φ, hr, hk => by
    simp only [runD] at hr
    simp only [rD]
    split at hr
    · rename_i hact
      rw [if_pos hact]
      split at hr
      · rename_i v h1 hra
        split at hr
        · rename_i hok
          exact runA_sound hra ⟨okBs_sound hok, runD_sound hr hk⟩
        · cases hr
      · cases hr
    · rename_i hact
      rw [if_neg hact]
      split at hr
      · rename_i hn
        rw [if_pos hn]
        split at hr
        · rename_i hok
          exact ⟨okB_sound hok, runD_sound hr hk⟩
        · cases hr
      · rename_i hn
        rw [if_neg hn]
        split at hr
        · rename_i v hq
          simp only [hq]
          exact runD_sound hr hk
        · cases hr
theorem runDs_sound {l : List (Nat × O × Nat)} {e : Env} {h : H} {e' : Env} {h' : H} {Φ : Env → H → Prop} (hr : runDs F U G l e h = some (e', h')) (hk : Φ e' h') : rDs (CC.of F) U G l e h Φ := by
  unfold runDs at hr
  unfold rDs
  split at hr
  · rename_i hn
    rw [if_pos hn]; exact runD_sound hr hk
  · rename_i hn
    rw [if_neg hn]; exact runD_sound hr hk
theorem runS_sound {k : Nat} : ∀ (c : S) {e : Env} {h : H} {x : Exit} {e' : Env} {h' : H} {Φ : Exit → Env → H → Prop}, runS F U G k c e h = some (x, e', h') → Φ x e' h' → W (CC.of F) U G c e h Φ := by
  intro c
  induction c with
  | skip =>
    intro e h x e' h' Φ hr hk
    simp only [runS, Option.some.injEq, Prod.mk.injEq] at hr
    obtain ⟨rfl, rfl, rfl⟩ := hr
    exact hk
  | exit id =>
    intro e h x e' h' Φ hr hk
    simp only [runS, Option.some.injEq, Prod.mk.injEq] at hr
    obtain ⟨rfl, rfl, rfl⟩ := hr
    exact hk
  | ret =>
    intro e h x e' h' Φ hr hk
    simp only [runS, Option.some.injEq, Prod.mk.injEq] at hr
    obtain ⟨rfl, rfl, rfl⟩ := hr
    exact hk
  | bad => intro e h x e' h' Φ hr hk; cases hr
  | reg ops live =>
    intro e h x e' h' Φ hr hk
    simp only [runS] at hr
    split at hr
    · rename_i e1 h1 hp
      simp only [Option.some.injEq, Prod.mk.injEq] at hr
      obtain ⟨rfl, rfl, rfl⟩ := hr
      exact runP_sound hp hk
    · cases hr
  | regD ops live =>
    intro e h x e' h' Φ hr hk
    simp only [runS] at hr
    split at hr
    · rename_i e1 h1 hp
      simp only [Option.some.injEq, Prod.mk.injEq] at hr
      obtain ⟨rfl, rfl, rfl⟩ := hr
      exact runDs_sound hp hk
    · cases hr
  | seq a b iha ihb =>
    intro e h x e' h' Φ hr hk
    simp only [runS] at hr
    simp only [W]
    split at hr
    · rename_i e1 h1 ha
      exact iha ha (ihb hr hk)
    · rename_i r hne
      refine iha hr ?_
      cases x with
      | normal => exact absurd hr (hne _ _)
      | _ => exact hk
  | cond c a b iha ihb =>
    intro e h x e' h' Φ hr hk
    simp only [runS] at hr
    simp only [W]
    split at hr
    · rename_i hc
      simp only [hc]
      exact iha hr hk
    · rename_i hc
      simp only [hc]
      exact ihb hr hk
    · cases hr
  | block id b ih =>
    intro e h x e' h' Φ hr hk
    simp only [runS] at hr
    simp only [W]
    split at hr
    · rename_i i e1 h1 hb
      refine ih hb ?_
      simp only
      split at hr
      · rename_i hi
        simp only [Option.some.injEq, Prod.mk.injEq] at hr
        obtain ⟨rfl, rfl, rfl⟩ := hr
        rw [if_pos hi]; exact hk
      · rename_i hi
        simp only [Option.some.injEq, Prod.mk.injEq] at hr
        obtain ⟨rfl, rfl, rfl⟩ := hr
        rw [if_neg hi]; exact hk
    · rename_i r hne
      refine ih hr ?_
      cases x with
      | exit i => exact absurd hr (hne _ _ _)
      | _ => exact hk
  | loop b ih =>
    intro e h x e' h' Φ hr hk
    simp only [runS] at hr
    simp only [W]
    refine ⟨k, ?_⟩
    have hh : ∀ n e h, (Nat.rec (motive := fun _ => Env → H → Option (Exit × Env × H)) (fun _ _ => none) (fun _ L e h => match runS F U G k b e h with
      | some (.normal, e, h) => L e h
      | r => r) n) e h = some (x, e', h') → (Nat.rec (motive := fun _ => Env → H → Prop) (fun _ _ => False) (fun _ L e h => W (CC.of F) U G b e h fun x e h => match x with
      | .normal => L e h
      | x => Φ x e h) n : Env → H → Prop) e h := by
      intro n
      induction n with
      | zero => intro e h hr; cases hr
      | succ n ihn =>
        intro e h hr
        simp only at hr ⊢
        split at hr
        · rename_i e1 h1 hb
          exact ih hb (ihn _ _ hr)
        · rename_i r hne
          refine ih hr ?_
          cases x with
          | normal => exact absurd hr (hne _ _)
          | _ => exact hk
    exact hh k e h hr
theorem runF_sound (hU : ∀ t u, U.contains (t, u) = true → size P t = some 2 ∧ ∀ k, liesAt P P.depth t (k + 1) 0 u 1 = true) (hm : P.follows .mixedOrders = true) {T : FuncId → Option FI} (hT : ∀ f fi, T f = some fi → FnOk P f fi) {nat : CF} {k : Nat}
    (hnat : ∀ f xs h v h', nat f xs h = some (v, h') → Spec P U G f xs h fun v1 h1 => v1 = v ∧ h1 = h') :
    ∀ (n : Nat) (f : FuncId) (xs : List AV) (h : H) (v : AV) (h' : H), runF T nat U G k n f xs h = some (v, h') → Spec P U G f xs h fun v1 h1 => v1 = v ∧ h1 = h' := by
  intro n
  induction n with
  | zero => intro f xs h v h' hr; cases hr
  | succ n ih =>
    intro f xs h v h' hr
    have hr : (match T f with
      | none => nat f xs h
      | some fi => if xs.length ≤ fi.N then match runS (runF T nat U G k n) U G k fi.S (params xs 0) h with
          | some (.normal, e, h) => (resE U G e h fi.rs).map fun v => (v, h)
          | some (.ret, e, h) => (resE U G e h fi.rs).map fun v => (v, h)
          | _ => none
        else none) = some (v, h') := hr
    have hBs : Base P U G (CC.of (runF T nat U G k n)) := ⟨hU, fun f xs h Ψ ⟨v, h', h1, h2⟩ => (ih f xs h v h' h1).mono fun v1 h1 ⟨e1, e2⟩ => by rw [e1, e2]; exact h2⟩
    split at hr
    · exact hnat f xs h v h' hr
    · rename_i fi hfi
      split at hr
      · rename_i hlen
        refine Spec_of hBs hm (hT f fi hfi) hlen ?_
        split at hr
        · rename_i e1 h1 hS
          obtain ⟨v1, k1, k2⟩ := Option.map_eq_some_iff.1 hr
          simp only [Prod.mk.injEq] at k2
          obtain ⟨rfl, rfl⟩ := k2
          exact runS_sound _ hS ⟨v1, k1, rfl, rfl⟩
        · rename_i e1 h1 hS
          obtain ⟨v1, k1, k2⟩ := Option.map_eq_some_iff.1 hr
          simp only [Prod.mk.injEq] at k2
          obtain ⟨rfl, rfl⟩ := k2
          exact runS_sound _ hS ⟨v1, k1, rfl, rfl⟩
        · cases hr
      · cases hr
end
end Go.Eng
