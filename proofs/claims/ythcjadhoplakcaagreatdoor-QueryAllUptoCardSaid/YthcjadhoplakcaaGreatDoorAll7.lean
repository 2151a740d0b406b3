/- The law QueryAll of package grommetlaw24 answers true and turns no argument, for all arguments that are together of bulk at most 1048576; condition: the listed package variables start as the program's text lays them. (part 7.) -/
import Derived.Test.YthcjadhoplakcaaGreatDoorAll6
import Derived.Tactics
import Derived.Orders
set_option linter.unusedSimpArgs false
set_option linter.unusedVariables false
namespace Go.Eng
section
variable {P : Program} {s : St} {h : H} {w : World} {G : Nat → AV} {e : Env} {a : Act} {U : List (TypeId × TypeId)} {C : CC} {N : Nat}
structure Base (P : Program) (U : List (TypeId × TypeId)) (G : Nat → AV) (C : CC) : Prop where
  hU : ∀ t u, U.contains (t, u) = true → size P t = some 2 ∧ ∀ k, liesAt P P.depth t (k + 1) 0 u 1 = true
  hC : ∀ f xs h Ψ, C f xs h Ψ → Spec P U G f xs h Ψ
def Once (P : Program) (ops : Array Oper) (o : Oper) (a : Act) (w : World) (next : Act → World → Prop) (Q : Exit → Act → World → Prop) : Prop :=
  if Region.wanted o (yielded ops a.tmps) then o.wp P a w next Q ∨ (o.asks P a w ∧ LetsOut Q) else next (a.put o.dst undef) w
theorem cOper_spec {ops : Array Oper} {o : Oper} {O : O} (h : cOper P N ops o = O) : O = ⟨none, .bad, none⟩ ∨ (cOp P o.op = some O.i ∧ cGuard ops o.guard = some O.g ∧ O.d = o.dst ∧ dstOk N o.dst = true) := by
  unfold cOper at h
  split at h
  · split at h
    · split at h
      · subst h; exact .inr ⟨‹_›, ‹_›, rfl, ‹_›⟩
      · exact .inl h.symm
    · exact .inl h.symm
  · exact .inl h.symm
theorem wanted_gd {ops : Array Oper} {o : Oper} {g : Option (Nat × Bool)} {d : Option Nat} {i : I} (hc : cGuard ops o.guard = some g) (he : EnvR s w e a) {b : Bool} (hg : gd ⟨d, i, g⟩ e = some b) : Region.wanted o (yielded ops a.tmps) = b := by
  unfold cGuard at hc
  split at hc
  · rename_i hn
    injection hc with hc; subst hc
    simp only [gd, Option.some.injEq] at hg
    subst hg
    simp [Region.wanted, hn]
  · rename_i j want hn
    split at hc
    · rename_i t ht
      injection hc with hc; subst hc
      simp only [gd] at hg
      split at hg
      · rename_i c hcv
        injection hg with hg; subst hg
        have hv := he t
        rw [hcv] at hv
        simp only [VR] at hv
        have hy : yielded ops a.tmps j = some c := by
          unfold yielded
          rw [ht]
          cases hx : a.tmps[t]? with
          | none => simp [Array.getD_eq_getD_getElem?, hx, undef] at hv
          | some x =>
            simp [Array.getD_eq_getD_getElem?, hx] at hv
            subst hv
            simp [hx]
        simp [Region.wanted, hn, hy]
      · rename_i vs hcv
        injection hg with hg; subst hg
        have hv := he t
        rw [hcv] at hv
        simp only [VR] at hv
        obtain ⟨us, hv, _⟩ := hv
        have hy : yielded ops a.tmps j = none := by
          unfold yielded
          rw [ht]
          cases hx : a.tmps[t]? with
          | none => simp [hx]
          | some x =>
            simp [Array.getD_eq_getD_getElem?, hx] at hv
            subst hv
            simp [hx]
        simp [Region.wanted, hn, hy]
      · cases hg
    · cases hc
theorem VR_undef {s : St} {w : World} : VR s w (.tup []) undef := by
  simp only [VR]
  exact ⟨#[], rfl, by simp [VRs]⟩
theorem once_quiet (hB : Base P U G C) (hsU : s.U = U) (hr : Rel s h w) (hG : GlobR s w G) (he : EnvR s w e a) {ops : Array Oper} {o : Oper} {O : O} (hc : cOper P N ops o = O) (hq : O.i.acts = false) {v : AV} (hv : qv U G O e h = some v)
    {next : Act → World → Prop} {Q : Exit → Act → World → Prop} (hk : ∀ r, VR s w v r → next (a.put o.dst r) w) : Once P ops o a w next Q := by
  rcases cOper_spec hc with rfl | ⟨h1, h2, h3, h4⟩
  · cases hq
  · unfold qv at hv
    split at hv
    · cases hv
    · rename_i hg
      injection hv with hv; subst hv
      have := wanted_gd (d := O.d) (i := O.i) h2 he hg
      unfold Once
      rw [this]
      exact hk undef VR_undef
    · rename_i hg
      have := wanted_gd (d := O.d) (i := O.i) h2 he hg
      unfold Once
      rw [this]
      obtain ⟨r, k1, k2⟩ := evQ_sound hB.hU hsU hr hG he hq h1 hv
      refine .inl ?_
      simp only [Oper.wp, k1, Oper.upon_value]
      exact hk r k2
def isC : I → Bool
  | .call .. | .callv .. => true
  | _ => false
theorem cOp_call {op : Op} {i : I} (hc : cOp P op = some i) (hi : isC i = true) :
    ∃ c x, op = .call c ∧ c.callee = .value x ∧ ((∃ f ys, i = .call f ys ∧ x = .func f ∧ cXs c.args.toList = some ys) ∨ (∃ y ys, i = .callv y ys ∧ cX x = some y ∧ cXs c.args.toList = some ys)) := by
  cases hop : op with
  | call c =>
    subst hop
    simp only [cOp, cCall] at hc
    obtain ⟨callee, args, argTypes⟩ := c
    simp only at hc
    split at hc
    · simp only [Option.bind_eq_bind, Option.bind_eq_some_iff, Option.some.injEq] at hc
      obtain ⟨ys, h1, rfl⟩ := hc
      exact ⟨_, _, rfl, rfl, .inl ⟨_, ys, rfl, rfl, h1⟩⟩
    · simp only [Option.bind_eq_bind, Option.bind_eq_some_iff, Option.some.injEq] at hc
      obtain ⟨y, h1, ys, h2, rfl⟩ := hc
      exact ⟨_, _, rfl, rfl, .inr ⟨y, ys, rfl, h1, h2⟩⟩
    · cases hc
    · exfalso
      repeat' (split at hc)
      all_goals first
        | (cases hc; done)
        | (injection hc with hc; subst hc; cases hi; done)
        | (simp only [Option.bind_eq_bind, Option.bind_eq_some_iff, Option.some.injEq] at hc
           first
             | (obtain ⟨_, _, rfl⟩ := hc; cases hi; done)
             | (obtain ⟨_, _, _, _, rfl⟩ := hc; cases hi; done)
             | (obtain ⟨_, _, _, _, _, _, rfl⟩ := hc; cases hi; done))
        | skip
  | makeFunc f x y =>
    exfalso
    subst hop
    cases f <;> simp only [cOp] at hc <;> first | (cases hc; done) | skip
    simp only [Option.bind_eq_bind, Option.bind_eq_some_iff, Option.some.injEq] at hc
    obtain ⟨_, _, _, _, rfl⟩ := hc
    cases hi
  | makeMap t r =>
    exfalso
    subst hop
    cases r <;> simp only [cOp] at hc <;> first | (cases hc; done) | skip
    split at hc <;> first | (cases hc; done) | (injection hc with hc; subst hc; cases hi)
  | _ =>
    exfalso
    subst hop; simp only [cOp] at hc
    repeat' (split at hc)
    all_goals first
      | (cases hc; done)
      | (injection hc with hc; subst hc; cases hi; done)
      | (simp only [Option.bind_eq_bind, Option.bind_eq_some_iff, Option.some.injEq] at hc
         first
           | (obtain ⟨_, _, rfl⟩ := hc; cases hi; done)
           | (obtain ⟨_, _, _, _, rfl⟩ := hc; cases hi; done)
           | (obtain ⟨_, _, _, _, _, _, rfl⟩ := hc; cases hi; done)
           | (obtain ⟨_, _, _, _, _, _, _, _, rfl⟩ := hc; cases hi; done))
theorem callee_wp {o : Oper} {f : FuncId} {vs : Array Value} (hrun : (execOp a.eval o).run P w = (callFunc f vs).run P w) {R : Value → World → Prop} (hc : Callee P f vs w R) {next : Act → World → Prop} {Q : Exit → Act → World → Prop}
    (hk : ∀ r w', R r w' → next (a.put o.dst r) w') : o.wp P a w next Q := by
  unfold Oper.wp
  rw [hrun]
  unfold Callee at hc
  split at hc
  · rename_i e; simp only [e, Oper.upon_value]; exact hk _ _ hc
  · rename_i e; simp only [e, Oper.upon_enter]
    exact Calls.mono hc fun en w'' he => by
      cases en with
      | returned r => exact hk _ _ he
      | panicked c => exact he.elim
      | outgrown => exact he.elim
  · exact hc.elim
theorem run_call_value {o : Oper} {c : Call} {x : Operand} (hop : o.op = .call c) (hx : c.callee = .value x) {f : FuncId} {first cap : Array Value} (hv : a.eval x = .func (.func f) first cap) :
    (execOp a.eval o).run P w = (callFunc f (first ++ c.args.map a.eval ++ cap)).run P w := by
  simp [execOp, hop, resolve, hx, Deferred.ofValue, hv, invoke]
theorem callOf_isC {i : I} {f : FuncId} {xs : List AV} (h : callOf G e i = some (f, xs)) : isC i = true := by
  cases i <;> first | rfl | cases h
theorem once_act (hB : Base P U G C) (hsU : s.U = U) (hr : Rel s h w) (hG : GlobR s w G) (he : EnvR s w e a) {ops : Array Oper} {o : Oper} {O : O} (hc : cOper P N ops o = O) {K : AV → H → Prop} (hv : act C U G O e h K)
    {next : Act → World → Prop} {Q : Exit → Act → World → Prop} (hk : ∀ v h' s' w' r, K v h' → Rel s' h' w' → Step s w s' w' → VR s' w' v r → next (a.put o.dst r) w') : Once P ops o a w next Q := by
  rcases cOper_spec hc with rfl | ⟨h1, h2, h3, h4⟩
  · exact hv.elim
  · unfold act at hv
    split at hv
    · exact hv.elim
    · rename_i hg
      have := wanted_gd (d := O.d) (i := O.i) h2 he hg
      unfold Once
      rw [this]
      exact hk (.tup []) h s w undef hv hr (Step.refl _ _) VR_undef
    · rename_i hg
      have := wanted_gd (d := O.d) (i := O.i) h2 he hg
      unfold Once
      rw [this]
      refine .inl ?_
      split at hv
      · rename_i f xs hcall
        obtain ⟨c, x, g1, g2, g3⟩ := cOp_call h1 (callOf_isC hcall)
        have done : ∀ (first cap : Array Value), a.eval x = .func (.func f) first cap → VRs s w xs (first ++ c.args.map a.eval ++ cap).toList → o.wp P a w next Q := by
          intro first cap k1 k2
          exact callee_wp (run_call_value g1 g2 k1) (hB.hC f xs h K hv s w _ hsU hr hG k2) (fun r w' ⟨v, h', s', q1, q2, q3, q4⟩ => hk v h' s' w' r q1 q2 q3 q4)
        rcases g3 with ⟨f', ys, k1, rfl, k3⟩ | ⟨y, ys, k1, k2, k3⟩
        · rw [k1] at hcall
          simp only [callOf, Option.some.injEq, Prod.mk.injEq] at hcall
          obtain ⟨rfl, rfl⟩ := hcall
          refine done #[] #[] rfl ?_
          have := cXs_VR hG he k3
          simpa using this
        · rw [k1] at hcall
          simp only [callOf] at hcall
          split at hcall
          · rename_i f' fa fb hfn
            simp only [Option.some.injEq, Prod.mk.injEq] at hcall
            obtain ⟨rfl, rfl⟩ := hcall
            have hx := cX_VR hG he k2
            rw [hfn] at hx
            simp only [VR] at hx
            obtain ⟨vs, us, q1, q2, q3⟩ := hx
            refine done vs us q1 ?_
            have := cXs_VR hG he k3
            simp only [Array.toList_append, Array.toList_map]
            exact VRs_append (VRs_append q2 this) q3
          · cases hcall
      · split at hv
        · rename_i v h' hev
          obtain ⟨r, nx, w', s', q1, q2, q3, q4, q5⟩ := evE_sound hsU hr hG he h1 hev
          simp only [Oper.wp, q1]
          rcases q2 with rfl | ⟨rfl, rfl⟩
          · exact hk v h' s' w' r hv q3 q4 q5
          · exact hk v h' s' w' undef hv q3 q4 q5
        · exact hv.elim
def Post (s : St) (w : World) (N : Nat) (Φ : Exit → Env → H → Prop) (x : Exit) (a' : Act) (w' : World) : Prop :=
  ∃ e' h' s', Φ x e' h' ∧ Rel s' h' w' ∧ Step s w s' w' ∧ EnvR s' w' e' a' ∧ a'.defers = [] ∧ a'.tmps.size = N
theorem rP_sound (hB : Base P U G C) {ops : Array Oper} {Φ : Env → H → Prop} {Q : Exit → Act → World → Prop} {s0 : St} {w0 : World}
    (hQ : ∀ e h s w a, Φ e h → Rel s h w → Step s0 w0 s w → EnvR s w e a → a.defers = [] → a.tmps.size = N → Q .normal a w) :
    ∀ (l : List Oper) (e : Env) (h : H) (s : St) (w : World) (a : Act), rP C U G (l.map (cOper P N ops)) e h Φ → s.U = U → Rel s h w → GlobR s w G → Step s0 w0 s w → EnvR s w e a → a.defers = [] → a.tmps.size = N →
      wpList P ops Q l a w
  | [], e, h, s, w, a, hΦ, _, hr, _, hs, he, hd, hn => hQ e h s w a hΦ hr hs he hd hn
  | o :: l, e, h, s, w, a, hΦ, hsU, hr, hG, hs, he, hd, hn => by
    simp only [List.map_cons, rP] at hΦ
    have hdst : ∀ (O : O), cOper P N ops o = O → O.i ≠ .bad → O.d = o.dst ∧ dstOk N o.dst = true := by
      intro O h1 h2
      rcases cOper_spec h1 with rfl | ⟨_, _, h3, h4⟩
      · exact absurd rfl h2
      · exact ⟨h3, h4⟩
    split at hΦ
    · rename_i hact
      by_cases hbad : (cOper P N ops o).i = .bad
      · exfalso
        rcases cOper_spec (O := cOper P N ops o) rfl with hb | ⟨h1, _⟩
        · rw [hb] at hΦ; exact hΦ.elim
        · rw [hbad] at h1
          simp only [act, hbad, callOf, evE] at hΦ
          split at hΦ <;> first | exact hΦ.elim | skip
          have : ∀ op : Op, cOp P op ≠ some .bad := by
            intro op hop
            cases op with
            | call c =>
              simp only [cOp, cCall] at hop
              repeat' (split at hop)
              all_goals first
                | (cases hop; done)
                | (simp [Option.bind_eq_some_iff] at hop; done)
            | makeFunc f x y => cases f <;> simp [cOp, Option.bind_eq_some_iff] at hop
            | makeMap t r =>
              cases r <;> simp only [cOp] at hop <;> first | (cases hop; done) | skip
              split at hop <;> cases hop
            | _ =>
              simp only [cOp] at hop
              repeat' (split at hop)
              all_goals first
                | (cases hop; done)
                | (simp [Option.bind_eq_some_iff] at hop; done)
          exact this _ h1
      · obtain ⟨d1, d2⟩ := hdst _ rfl hbad
        exact once_act hB hsU hr hG he (next := wpList P ops Q l) (Q := Q) rfl hΦ (fun v h' s' w' r k1 k2 k3 k4 => by
          rw [d1] at k1
          exact rP_sound hB hQ l _ h' s' w' _ k1 (k3.ext.U.trans hsU) k2 (hG.mono k3 hr.apart) (hs.trans k3) ((he.mono k3 hr.apart).put k4 (by rw [hn]; exact d2)) (by rw [put_defers]; exact hd) (by rw [put_size]; exact hn))
    · rename_i hact
      simp only [Bool.or_eq_true, not_or, Bool.not_eq_true] at hact
      have hbad : (cOper P N ops o).i ≠ .bad := by intro hb; rw [hb] at hact; cases hact.1
      obtain ⟨d1, d2⟩ := hdst _ rfl hbad
      split at hΦ
      · rename_i v hqv
        exact once_quiet hB hsU hr hG he (next := wpList P ops Q l) (Q := Q) rfl hact.1 hqv (fun r k1 => by
          rw [d1] at hΦ
          exact rP_sound hB hQ l _ h s w _ hΦ hsU hr hG hs (he.put k1 (by rw [hn]; exact d2)) (by rw [put_defers]; exact hd) (by rw [put_size]; exact hn))
      · exact hΦ.elim
end
end Go.Eng
namespace Go.Eng
def O.has (t : Nat) (o : O) : Bool := o.i.has t || (match o.g with
  | some (d, _) => d == t
  | none => false)
def conf (a b : O) : Bool :=
  (match a.d with
   | some d => b.has d || b.d == some d
   | none => false) || (match b.d with
   | some d => a.has d
   | none => false)
def okOne (P : Program) (N : Nat) (ops : Array Oper) (pre : List (Nat × O × Nat)) (q : Nat) (o : O) (m : Nat) : Bool :=
  (match ops[q]? with
   | none => false
   | some op =>
     op.after.toList.all (fun e => !Region.binds .any e || pre.any (fun p => p.1 == e.on)) &&
     (List.range ops.size).all (fun j => !m.testBit j || op.after.toList.any (fun e => Region.binds .any e && (e.on == j || pre.any (fun p => p.1 == e.on && p.2.2.testBit j)))) ) &&
  m < 2 ^ ops.size && !(o.i.news && o.g.isSome) &&
  pre.all (fun p => p.1 != q && !p.2.2.testBit q && (!p.2.1.i.acts || m.testBit p.1) && (!conf p.2.1 o || m.testBit p.1))
def okRest (P : Program) (N : Nat) (ops : Array Oper) : List (Nat × O × Nat) → List (Nat × O × Nat) → Bool
  | _, [] => true
  | pre, (q, o, m) :: l => okOne P N ops pre q o m && okRest P N ops ((q, o, m) :: pre) l
def okD (P : Program) (N : Nat) (ops : Array Oper) (L : List (Nat × O × Nat)) : Bool :=
  okRest P N ops [] L && (List.range ops.size).all fun i => L.any fun p => p.1 == i
structure Hs where
  i : Nat
  o : O
  m : Nat
  e : Env
  v : AV
def Hs.t (p : Hs) : Nat × O × Nat := (p.i, p.o, p.m)
def envF (B : Nat → Bool) (e0 : Env) : List Hs → Env
  | [] => e0
  | p :: ps => if B p.i then (envF B e0 ps).put p.o.d p.v else envF B e0 ps
section
variable {P : Program} {N : Nat} {ops : Array Oper} {e0 : Env} {B : Nat → Bool} {G : Nat → AV} {U : List (TypeId × TypeId)} {h h' : H}
structure One (P : Program) (N : Nat) (ops : Array Oper) (pre : List (Nat × O × Nat)) (q : Nat) (o : O) (m : Nat) : Prop where
  op : ∃ op, ops[q]? = some op
  edge : ∀ op, ops[q]? = some op → ∀ e ∈ op.after, Region.binds .any e = true → ∃ p ∈ pre, p.1 = e.on
  bits : ∀ op, ops[q]? = some op → ∀ j, m.testBit j = true → ∃ e ∈ op.after, Region.binds .any e = true ∧ (e.on = j ∨ ∃ p ∈ pre, p.1 = e.on ∧ p.2.2.testBit j = true)
  bare : o.i.news = true → o.g = none
  ne : ∀ p ∈ pre, p.1 ≠ q
  nb : ∀ p ∈ pre, p.2.2.testBit q = false
  acts : ∀ p ∈ pre, p.2.1.i.acts = true → m.testBit p.1 = true
  conf : ∀ p ∈ pre, Eng.conf p.2.1 o = true → m.testBit p.1 = true
theorem okOne_spec {pre : List (Nat × O × Nat)} {q : Nat} {o : O} {m : Nat} (hk : okOne P N ops pre q o m = true) : One P N ops pre q o m := by
  unfold okOne at hk
  simp only [Bool.and_eq_true] at hk
  obtain ⟨⟨⟨h1, h2⟩, h3⟩, h4⟩ := hk
  split at h1
  · cases h1
  · rename_i op hop
    simp only [Bool.and_eq_true, List.all_eq_true] at h1
    obtain ⟨h5, h6⟩ := h1
    have hm : m < 2 ^ ops.size := by simpa using h2
    refine ⟨⟨op, hop⟩, fun op' ho' e he hb => ?_, fun op' ho' j hj => ?_, fun hn => ?_, fun p hp => ?_, fun p hp => ?_, fun p hp ha => ?_, fun p hp hc => ?_⟩
    · rw [hop] at ho'; injection ho' with ho'; subst ho'
      have := h5 e (by simpa using he)
      simp [hb] at this
      obtain ⟨a, b, h7⟩ := this
      exact ⟨_, h7, rfl⟩
    · rw [hop] at ho'; injection ho' with ho'; subst ho'
      have hj' : j < ops.size := by
        by_cases hlt : j < ops.size
        · exact hlt
        · exfalso
          have : m.testBit j = false := Nat.testBit_lt_two_pow (Nat.lt_of_lt_of_le hm (Nat.pow_le_pow_right (by omega) (by omega)))
          rw [this] at hj; cases hj
      have := h6 j (by simpa using hj')
      simp only [hj, Bool.not_true, Bool.false_or, List.any_eq_true, Bool.and_eq_true, Bool.or_eq_true, beq_iff_eq] at this
      obtain ⟨e, h7, h8, h9⟩ := this
      refine ⟨e, by simpa using h7, h8, h9.imp id ?_⟩
      rintro ⟨p, q1, q2, q3⟩
      exact ⟨p, q1, q2, q3⟩
    · simp only [hn, Bool.true_and, Bool.not_eq_true', Option.isSome_eq_false_iff] at h3
      simpa using h3
    all_goals
      rw [List.all_eq_true] at h4
      have h7 := h4 p hp
      simp only [Bool.and_eq_true, bne_iff_ne, ne_eq, Bool.not_eq_true', Bool.or_eq_true] at h7
      obtain ⟨⟨⟨k1, k2⟩, k3⟩, k4⟩ := h7
    · exact k1
    · exact k2
    · rcases k3 with k3 | k3
      · rw [ha] at k3; cases k3
      · exact k3
    · rcases k4 with k4 | k4
      · rw [hc] at k4; cases k4
      · exact k4
theorem conf_dst {a b : O} {d : Nat} (hd : a.d = some d) (hb : b.has d = true) : conf a b = true := by simp [conf, hd, hb]
theorem conf_dst2 {a b : O} {d : Nat} (hd : a.d = some d) (hb : b.d = some d) : conf a b = true := by simp [conf, hd, hb]
theorem conf_src {a b : O} {d : Nat} (hd : b.d = some d) (ha : a.has d = true) : conf a b = true := by simp [conf, hd, ha]
theorem gd_congr {o : O} {e e' : Env} (hs : ∀ t, o.has t = true → e.get t = e'.get t) : gd o e = gd o e' := by
  unfold gd
  cases hg : o.g with
  | none => rfl
  | some g =>
    obtain ⟨d, b⟩ := g
    have : e.get d = e'.get d := hs d (by simp [O.has, hg])
    simp only [this]
theorem qv_congr {o : O} {e e' : Env} (hs : ∀ t, o.has t = true → e.get t = e'.get t) : qv U G o e h = qv U G o e' h := by
  unfold qv
  rw [gd_congr hs, evQ_congr (U := U) (G := G) (h := h) (i := o.i) (e := e) (e' := e') (fun t ht => hs t (by simp [O.has, ht]))]
theorem qv_pure {o : O} {e : Env} (hr : o.i.reads = false) (hn : o.i.acts = false) : qv U G o e h = qv U G o e h' := by
  unfold qv
  rw [evQ_pure (U := U) (G := G) (i := o.i) (e := e) (h := h) (h' := h') hr hn]
theorem callOf_congr {i : I} {e e' : Env} (hs : ∀ t, i.has t = true → e.get t = e'.get t) : callOf G e i = callOf G e' i := by
  cases i <;> first | rfl | skip
  · rename_i f xs
    simp only [callOf, evs_congr (G := G) (xs := xs) (e := e) (e' := e') (fun t h => hs t (by simpa [I.has] using h))]
  · rename_i x xs
    simp only [callOf, X.ev_congr (G := G) (x := x) (e := e) (e' := e') (fun t h => hs t (by simp [I.has, h])), evs_congr (G := G) (xs := xs) (e := e) (e' := e') (fun t h => hs t (by simp [I.has, h]))]
theorem act_congr {C : CC} {o : O} {e e' : Env} (hs : ∀ t, o.has t = true → e.get t = e'.get t) {K : AV → H → Prop} (hk : act C U G o e h K) : act C U G o e' h K := by
  have h1 : ∀ t, o.i.has t = true → e.get t = e'.get t := fun t ht => hs t (by simp [O.has, ht])
  unfold act at *
  rw [← gd_congr hs, ← callOf_congr (G := G) h1, ← evE_congr (U := U) (G := G) (h := h) h1]
  exact hk
def HOk (P : Program) (N : Nat) (ops : Array Oper) (e0 : Env) : List Hs → Prop
  | [] => True
  | p :: hs => One P N ops (hs.map Hs.t) p.i p.o p.m ∧ p.e = envF (fun _ => true) e0 hs ∧ (∃ op, ops[p.i]? = some op ∧ cOper P N ops op = p.o) ∧ HOk P N ops e0 hs
theorem agree_older : ∀ {hs : List Hs} {o : O} {m : Nat}, (∀ p ∈ hs, conf p.o o = true → m.testBit p.i = true) → (∀ j, m.testBit j = true → B j = true) → ∀ t, o.has t = true → (envF B e0 hs).get t = (envF (fun _ => true) e0 hs).get t
  | [], _, _, _, _, _, _ => rfl
  | p :: hs, o, m, h1, h2, t, ht => by
    have ih := agree_older (hs := hs) (o := o) (m := m) (fun p hp => h1 p (List.mem_cons_of_mem _ hp)) h2 t ht
    simp only [envF, if_true]
    rw [get_put]
    by_cases hd : p.o.d = some t
    · have hb : B p.i = true := h2 _ (h1 p List.mem_cons_self (conf_dst hd ht))
      rw [if_pos hd, if_pos hb, get_put, if_pos hd]
    · rw [if_neg hd]
      split
      · rw [get_put, if_neg hd]; exact ih
      · exact ih
theorem agree_in : ∀ {hs : List Hs} {p : Hs}, HOk P N ops e0 hs → p ∈ hs → B p.i = false → (∀ q ∈ hs, B q.i = true → ∀ j, q.m.testBit j = true → B j = true) → (∀ j, p.m.testBit j = true → B j = true) →
    (∀ t, p.o.has t = true → (envF B e0 hs).get t = p.e.get t) ∧
    (∀ B' : Nat → Bool, (∀ j, B' j = (B j || j == p.i)) → ∀ t, (envF B' e0 hs).get t = if p.o.d = some t then p.v else (envF B e0 hs).get t)
  | [], p, _, hp, _, _, _ => by cases hp
  | q :: hs, p, hk, hp, hb, hcl, hrd => by
    obtain ⟨k1, k2, k3, k4⟩ := hk
    have hcl' : ∀ q ∈ hs, B q.i = true → ∀ j, q.m.testBit j = true → B j = true := fun q hq => hcl q (List.mem_cons_of_mem _ hq)
    have old : ∀ (hs : List Hs), (∀ x ∈ hs, x.i ≠ p.i) → ∀ B' : Nat → Bool, (∀ j, B' j = (B j || j == p.i)) → envF B' e0 hs = envF B e0 hs := by
      intro hs
      induction hs with
      | nil => intro _ B' _; rfl
      | cons x hs ih =>
        intro hx B' hB'
        have hx1 : B' x.i = B x.i := by
          rw [hB']
          have := hx x List.mem_cons_self
          simp [this]
        simp only [envF, hx1, ih (fun y hy => hx y (List.mem_cons_of_mem _ hy)) B' hB']
    by_cases hpq : p = q
    · subst hpq
      constructor
      · intro t ht
        simp only [envF, hb, Bool.false_eq_true, if_false]
        rw [k2]
        exact agree_older (fun x hx hc => k1.conf x.t (List.mem_map_of_mem hx) hc) hrd t ht
      · intro B' hB' t
        have hp' : B' p.i = true := by rw [hB']; simp
        have hold := old hs (fun x hx => k1.ne x.t (List.mem_map_of_mem hx)) B' hB'
        simp only [envF, hp', hb, if_true, Bool.false_eq_true, if_false, hold]
        rw [get_put]
    · have hp' : p ∈ hs := by
        rcases List.mem_cons.1 hp with e | e
        · exact absurd e hpq
        · exact e
      obtain ⟨i1, i2⟩ := agree_in k4 hp' hb hcl' hrd
      have hne : p.i ≠ q.i := k1.ne p.t (List.mem_map_of_mem hp')
      have later : conf p.o q.o = true → B q.i = false := by
        intro hc
        have hbit := k1.conf p.t (List.mem_map_of_mem hp') hc
        cases hq : B q.i with
        | false => rfl
        | true =>
          have := hcl q List.mem_cons_self hq p.i hbit
          rw [hb] at this; cases this
      constructor
      · intro t ht
        simp only [envF]
        split
        · rename_i hq
          rw [get_put]
          by_cases hd : q.o.d = some t
          · exfalso
            have := later (conf_src hd ht)
            rw [hq] at this; cases this
          · rw [if_neg hd]; exact i1 t ht
        · exact i1 t ht
      · intro B' hB' t
        have hq' : B' q.i = B q.i := by rw [hB']; simp [Ne.symm hne]
        simp only [envF, hq']
        split
        · rename_i hq
          rw [get_put, get_put, i2 B' hB' t]
          by_cases hd : q.o.d = some t
          · rw [if_pos hd, if_pos hd]
            by_cases hd2 : p.o.d = some t
            · exfalso
              have := later (conf_dst2 hd2 hd)
              rw [hq] at this; cases this
            · rw [if_neg hd2]
          · rw [if_neg hd, if_neg hd]
        · exact i2 B' hB' t
theorem envF_all : ∀ {hs : List Hs}, (∀ p ∈ hs, B p.i = true) → envF B e0 hs = envF (fun _ => true) e0 hs
  | [], _ => rfl
  | p :: hs, h => by
    simp only [envF, h p List.mem_cons_self, if_true, envF_all (hs := hs) (fun q hq => h q (List.mem_cons_of_mem _ hq))]
theorem envF_same {B' : Nat → Bool} : ∀ {hs : List Hs}, (∀ p ∈ hs, B' p.i = B p.i) → envF B' e0 hs = envF B e0 hs
  | [], _ => rfl
  | p :: hs, h => by
    simp only [envF, h p List.mem_cons_self, envF_same (hs := hs) (fun q hq => h q (List.mem_cons_of_mem _ hq))]
theorem okAll_mem {m : Nat} : ∀ {ps : List Pd}, okAll U G h m ps → ∀ p ∈ ps, m.testBit p.i = false → okAt U G h p
  | [], _, p, hp, _ => by cases hp
  | q :: ps, hk, p, hp, hm => by
    rcases List.mem_cons.1 hp with e | e
    · subst e
      rcases hk.1 with h1 | h1
      · rw [hm] at h1; cases h1
      · exact h1
    · exact okAll_mem hk.2 p e hm
theorem still_mem {m : Nat} {p : Pd} (hm : m.testBit p.i = false) : ∀ {ps : List Pd}, p ∈ ps → p ∈ still m ps
  | [], hp => by cases hp
  | q :: ps, hp => by
    simp only [still]
    rcases List.mem_cons.1 hp with e | e
    · subst e
      rw [hm]; simp
    · split
      · exact still_mem hm e
      · exact List.mem_cons_of_mem _ (still_mem hm e)
end
end Go.Eng
namespace Go.Eng
section
variable {P : Program} {N : Nat} {ops : Array Oper} {e0 : Env} {B : Nat → Bool} {G : Nat → AV} {U : List (TypeId × TypeId)} {C : CC} {s0 : St} {w0 : World} {base : Nat} {nw : Bool} {Φ : Env → H → Prop}
theorem alloc_at {s : St} {h : H} {w : World} (hr : Rel s h w) {l : Nat} (hl : s.ρ l = none) (hn : l < h.next) {cs : List AV} {c : Array Value} {t : TypeId} (hg : h.get l = some (.cells cs t (some 0))) (hv : VRs s w cs c.toList) (hlf : ∀ x ∈ cs, x.leaf = true) :
    Rel (s.add l (w.heap.size, 0, c.size)) h (w.alloc (.cells c t (0, 0))) ∧ Mono s w (s.add l (w.heap.size, 0, c.size)) (w.alloc (.cells c t (0, 0))) := by
  have k : Mono s w (s.add l (w.heap.size, 0, c.size)) (w.alloc (.cells c t (0, 0))) := by
    refine ⟨⟨fun l' x hx => ?_, fun _ h => h, rfl, fun l' b d m hl' => ?_, fun _ h => .inl h⟩, keep_alloc _ _ _⟩
    · simp only [St.add]
      rw [if_neg (fun e => by subst e; rw [hl] at hx; cases hx)]; exact hx
    · simp only [St.add] at hl'
      split at hl'
      · injection hl' with e; injection e with e1 _; exact .inr (by omega)
      · exact .inl ⟨l', d, m, hl'⟩
  have old : ∀ l1 x, (s.add l (w.heap.size, 0, c.size)).ρ l1 = some x → (l1 = l ∧ x = (w.heap.size, 0, c.size)) ∨ (l1 ≠ l ∧ s.ρ l1 = some x) := by
    intro l1 x hx
    simp only [St.add] at hx
    split at hx
    · injection hx with e; exact .inl ⟨‹_›, e.symm⟩
    · exact .inr ⟨‹_›, hx⟩
  refine ⟨⟨hr.low, fun l1 b1 d1 m1 h1 => ?_, fun l1 b1 d1 m1 h1 => ?_, fun b hb => by rw [alloc_size]; have := hr.Flt b hb; omega, fun l1 l2 b1 d1 m1 d2 m2 h1 h2 g1 g2 => ?_, fun l1 b1 d1 m1 o h1 ho => ?_⟩, k⟩
  · rw [alloc_size]
    rcases old l1 _ h1 with ⟨rfl, e⟩ | ⟨_, h1⟩
    · injection e with e1 _; exact ⟨hn, by omega⟩
    · have := hr.lt l1 b1 d1 m1 h1; omega
  · rcases old l1 _ h1 with ⟨rfl, e⟩ | ⟨_, h1⟩
    · injection e with e1 _
      intro hF
      have := hr.Flt b1 hF
      omega
    · exact hr.apart l1 b1 d1 m1 h1
  · rcases old l1 _ h1 with ⟨e1, e⟩ | ⟨n1, h3⟩ <;> rcases old l2 _ h2 with ⟨e2, e'⟩ | ⟨n2, h4⟩
    · rw [e1, e2]
    · injection e with e3 _
      have := (hr.lt l2 b1 d2 m2 h4).2; omega
    · injection e' with e3 _
      have := (hr.lt l1 b1 d1 m1 h3).2; omega
    · exact hr.inj l1 l2 b1 d1 m1 d2 m2 h3 h4 g1 g2
  · rcases old l1 _ h1 with ⟨rfl, e⟩ | ⟨n1, h3⟩
    · rw [hg] at ho
      injection ho with ho; subst ho
      injection e with e1 e2; injection e2 with e2 e3
      subst e1; subst e2; subst e3
      have hlen := VRs_length hv
      simp at hlen
      refine ⟨c, 0, 0, heap_alloc_new w _, fun z hz => by omega, by omega, by omega, hlf, ?_, fun _ _ => rfl⟩
      have := VRs.mono' k hr.apart hv
      simpa using VRs_self_take this
    · exact ObjR.mono' k hr.apart (hr.obj l1 b1 d1 m1 o h3 ho) (by have h9 := (hr.lt l1 b1 d1 m1 h3).2; simp only [World.alloc, Array.getElem?_push]; rw [if_neg (by omega)])
structure Inv (P : Program) (N : Nat) (ops : Array Oper) (C : CC) (U : List (TypeId × TypeId)) (G : Nat → AV) (base : Nat) (nw : Bool) (e0 : Env) (s0 : St) (w0 : World) (Φ : Env → H → Prop)
    (B : Nat → Bool) (a : Act) (w : World) (hs : List Hs) (rest : List (Nat × O × Nat)) (ps : List Pd) (h : H) (s : St) : Prop where
  hok : HOk P N ops e0 hs
  rok : okRest P N ops (hs.map Hs.t) rest = true
  rop : ∀ r ∈ rest, ∃ op, ops[r.1]? = some op ∧ cOper P N ops op = r.2.1
  cov : ∀ i, i < ops.size → (∃ p ∈ hs, p.i = i) ∨ ∃ r ∈ rest, r.1 = i
  run : rD C U G base rest ps (envF (fun _ => true) e0 hs) h Φ
  sub : ∀ i, B i = true → ∃ p ∈ hs, p.i = i
  clo : ∀ p ∈ hs, B p.i = true → ∀ j, p.m.testBit j = true → B j = true
  fut : ∀ p ∈ hs, B p.i = false → p.o.i.acts = false ∧ okAt U G h ⟨p.i, p.o, p.e, p.v⟩ ∧ ((p.o.i.reads || p.o.i.news) = true → (⟨p.i, p.o, p.e, p.v⟩ : Pd) ∈ ps) ∧ (p.o.i.news = true → nw = true ∧ p.v = .ptr (base + p.i) 0 ∧ s.ρ (base + p.i) = none)
  new : ∀ r ∈ rest, r.2.1.i.news = true → nw = true ∧ s.ρ (base + r.1) = none
  top : nw = true → base + ops.size ≤ s.n
  bot : s0.n ≤ base
  hsU : s.U = U
  rel : Rel s h w
  glob : GlobR s w G
  step : Step s0 w0 s w
  env : EnvR s w (envF B e0 hs) a
  defers : a.defers = []
  size : a.tmps.size = N
theorem okAt_quiet {h : H} {p : Pd} (hn : p.o.i.news = false) : okAt U G h p = (qv U G p.o p.e h = some p.v) := by
  obtain ⟨i, ⟨d, op, g⟩, e, v⟩ := p
  cases op <;> first | rfl | (cases hn; done)
theorem ops_lt {i : Nat} {op : Oper} (h : ops[i]? = some op) : i < ops.size := (Array.getElem?_eq_some_iff.1 h).1
theorem Inv.drain {a : Act} {w : World} {s : St} {h : H} : ∀ (rest : List (Nat × O × Nat)) (hs : List Hs) (ps : List Pd), Inv P N ops C U G base nw e0 s0 w0 Φ B a w hs rest ps h s →
    ∃ hs' rest' ps', Inv P N ops C U G base nw e0 s0 w0 Φ B a w hs' rest' ps' h s ∧ (rest' = [] ∨ ∃ r tl, rest' = r :: tl ∧ r.2.1.i.acts = true)
  | [], hs, ps, hi => ⟨hs, [], ps, hi, .inl rfl⟩
  | (i, o, m) :: tl, hs, ps, hi => by
    by_cases hact : o.i.acts = true
    · exact ⟨hs, _, ps, hi, .inr ⟨_, _, rfl, hact⟩⟩
    · have hact' : o.i.acts = false := by simpa using hact
      have hrok := hi.rok
      simp only [okRest, Bool.and_eq_true] at hrok
      obtain ⟨r1, r2⟩ := hrok
      have one := okOne_spec r1
      have hB : B i = false := by
        cases hb : B i with
        | false => rfl
        | true =>
          obtain ⟨p, hp, hpi⟩ := hi.sub i hb
          exact absurd hpi (one.ne p.t (List.mem_map_of_mem hp))
      have hrop := hi.rop (i, o, m) List.mem_cons_self
      have go : ∀ v ps', okAt U G h ⟨i, o, envF (fun _ => true) e0 hs, v⟩ → (∀ q ∈ ps, q ∈ ps') → ((o.i.reads || o.i.news) = true → (⟨i, o, envF (fun _ => true) e0 hs, v⟩ : Pd) ∈ ps') → (o.i.news = true → v = .ptr (base + i) 0) →
          rD C U G base tl ps' ((envF (fun _ => true) e0 hs).put o.d v) h Φ →
          Inv P N ops C U G base nw e0 s0 w0 Φ B a w (⟨i, o, m, envF (fun _ => true) e0 hs, v⟩ :: hs) tl ps' h s := by
        intro v ps' k1 k2 k3 k5 k4
        refine { hok := ⟨one, rfl, hrop, hi.hok⟩, rok := r2, rop := fun r hr => hi.rop r (List.mem_cons_of_mem _ hr), cov := fun j hj => ?_, run := by simpa only [envF, if_true] using k4, sub := fun j hj => ?_, clo := fun p hp hb => ?_, fut := fun p hp hb => ?_, new := fun r hr => hi.new r (List.mem_cons_of_mem _ hr), top := hi.top, bot := hi.bot, hsU := hi.hsU, rel := hi.rel, glob := hi.glob, step := hi.step, env := by simpa only [envF, hB, Bool.false_eq_true, if_false] using hi.env, defers := hi.defers, size := hi.size }
        · rcases hi.cov j hj with ⟨p, hp, e⟩ | ⟨r, hr, e⟩
          · exact .inl ⟨p, List.mem_cons_of_mem _ hp, e⟩
          · rcases List.mem_cons.1 hr with e' | e'
            · subst e'; exact .inl ⟨_, List.mem_cons_self, e⟩
            · exact .inr ⟨r, e', e⟩
        · obtain ⟨p, hp, e⟩ := hi.sub j hj
          exact ⟨p, List.mem_cons_of_mem _ hp, e⟩
        · rcases List.mem_cons.1 hp with e | e
          · subst e; rw [hB] at hb; cases hb
          · exact hi.clo p e hb
        · rcases List.mem_cons.1 hp with e | e
          · subst e
            exact ⟨hact', k1, k3, fun hn => ⟨(hi.new (i, o, m) List.mem_cons_self hn).1, k5 hn, (hi.new (i, o, m) List.mem_cons_self hn).2⟩⟩
          · obtain ⟨f1, f2, f3, f4⟩ := hi.fut p e hb
            exact ⟨f1, f2, fun hh => k2 _ (f3 hh), f4⟩
      have hrun := hi.run
      simp only [rD, hact', Bool.false_eq_true, if_false] at hrun
      split at hrun
      · rename_i hnews
        obtain ⟨k1, k2⟩ := hrun
        exact Inv.drain tl _ _ (go _ _ k1 (fun q hq => List.mem_cons_of_mem _ hq) (fun _ => List.mem_cons_self) (fun _ => rfl) k2)
      · rename_i hnews
        have hnews' : o.i.news = false := by simpa using hnews
        split at hrun
        · rename_i v hqv
          refine Inv.drain tl _ _ (go v _ ?_ ?_ ?_ (fun hn => absurd hn hnews) hrun)
          · rw [okAt_quiet (by exact hnews')]; exact hqv
          · intro q hq
            split
            · exact List.mem_cons_of_mem _ hq
            · exact hq
          · intro hh
            rw [hnews', Bool.or_false] at hh
            rw [if_pos hh]
            exact List.mem_cons_self
        · exact hrun.elim
theorem ready_spec {L : Array Bool} {i : Nat} (hL : L.size = ops.size) (hi : i ∈ Region.ready .any ops L) : L.getD i false = false ∧ i < ops.size ∧ ∃ op, ops[i]? = some op ∧ ∀ e ∈ op.after, Region.binds .any e = true → L.getD e.on false = true := by
  simp only [Region.ready, List.mem_filter, List.mem_range, Bool.and_eq_true] at hi
  obtain ⟨h1, h2, h3⟩ := hi
  refine ⟨?_, h1, ?_⟩
  · have h4 : i < L.size := by omega
    simpa [Array.getD_eq_getD_getElem?, h4] using h2
  · have : ops[i]? = some ops[i] := Array.getElem?_eq_getElem h1
    refine ⟨_, this, ?_⟩
    rw [this] at h3
    simp only [Option.map_some, Option.getD_some, Array.all_eq_true] at h3
    intro e he hb
    obtain ⟨k, hk, rfl⟩ := Array.mem_iff_getElem.1 he
    have := h3 k hk
    simpa [hb] using this
theorem ready_of {L : Array Bool} {i : Nat} {op : Oper} (hL : L.size = ops.size) (ho : ops[i]? = some op) (hl : L.getD i false = false) (he : ∀ e ∈ op.after, Region.binds .any e = true → L.getD e.on false = true) : i ∈ Region.ready .any ops L := by
  have hlt := ops_lt ho
  simp only [Region.ready, List.mem_filter, List.mem_range, Bool.and_eq_true]
  refine ⟨hlt, ?_, ?_⟩
  · have h4 : i < L.size := by omega
    simpa [Array.getD_eq_getD_getElem?, h4] using hl
  · rw [ho]
    simp only [Option.map_some, Option.getD_some, Array.all_eq_true]
    intro k hk
    cases hb : Region.binds .any op.after[k] with
    | false => simp
    | true => simp [he _ (Array.getElem_mem hk) hb]
theorem getD_set {L : Array Bool} {i : Nat} (hi : i < L.size) (j : Nat) : (L.setIfInBounds i true).getD j false = (L.getD j false || j == i) := by
  simp only [Array.getD_eq_getD_getElem?, Array.getElem?_setIfInBounds]
  by_cases h : i = j
  · subst h; simp [hi]
  · have h' : ¬ j = i := fun e => h e.symm
    simp [h, h']
end
end Go.Eng
namespace Go.Eng
section
variable {P : Program} {N : Nat} {ops : Array Oper} {e0 : Env} {B B' : Nat → Bool} {G : Nat → AV} {U : List (TypeId × TypeId)} {C : CC} {s0 : St} {w0 : World} {base : Nat} {nw : Bool} {Φ : Env → H → Prop}
theorem EnvR.of_get {s : St} {w : World} {e e' : Env} {a : Act} (h : EnvR s w e a) (he : ∀ t, e'.get t = e.get t) : EnvR s w e' a := fun t => by rw [he t]; exact h t
theorem EnvR.mono' {s s' : St} {w w' : World} {e : Env} {a : Act} (h : EnvR s w e a) (k : Mono s w s' w') (hap : ∀ l b d m, s.ρ l = some (b, d, m) → ¬ s.F b) : EnvR s' w' e a := fun t => VR.mono' k hap (h t)
theorem Inv.late (hBs : Base P U G C) {a : Act} {w : World} {hs : List Hs} {rest : List (Nat × O × Nat)} {ps : List Pd} {h : H} {s : St} (hi : Inv P N ops C U G base nw e0 s0 w0 Φ B a w hs rest ps h s) {p : Hs} (hp : p ∈ hs) (hb : B p.i = false)
    {op : Oper} (hop : ops[p.i]? = some op) (hrd : ∀ e ∈ op.after, Region.binds .any e = true → B e.on = true) (hB' : ∀ j, B' j = (B j || j == p.i)) {K : Act → World → Prop} {Q : Exit → Act → World → Prop}
    (hK : ∀ a' w' s', Inv P N ops C U G base nw e0 s0 w0 Φ B' a' w' hs rest ps h s' → K a' w') : Once P ops op a w K Q := by
  have hmem : ∀ {l : List Hs}, HOk P N ops e0 l → p ∈ l → (∃ pre, One P N ops pre p.i p.o p.m ∧ ∀ r ∈ pre, ∃ x ∈ l, x.t = r) ∧ cOper P N ops op = p.o := by
    intro l
    induction l with
    | nil => intro _ h; cases h
    | cons q l ih =>
      intro hk hpl
      obtain ⟨k1, k2, ⟨op', k3, k3'⟩, k4⟩ := hk
      rcases List.mem_cons.1 hpl with e | e
      · subst e
        rw [hop] at k3; injection k3 with k3; subst k3
        exact ⟨⟨_, k1, fun r hr => by obtain ⟨x, hx, e⟩ := List.mem_map.1 hr; exact ⟨x, List.mem_cons_of_mem _ hx, e⟩⟩, k3'⟩
      · obtain ⟨⟨pre, j1, j2⟩, j3⟩ := ih k4 e
        exact ⟨⟨pre, j1, fun r hr => by obtain ⟨x, hx, e⟩ := j2 r hr; exact ⟨x, List.mem_cons_of_mem _ hx, e⟩⟩, j3⟩
  obtain ⟨⟨pre, one, hpre⟩, hco⟩ := hmem hi.hok hp
  have hbits : ∀ j, p.m.testBit j = true → B j = true := by
    intro j hj
    obtain ⟨e, h1, h2, h3⟩ := one.bits op hop j hj
    have hon := hrd e h1 h2
    rcases h3 with h3 | ⟨r, h4, h5, h6⟩
    · rw [← h3]; exact hon
    · obtain ⟨x, hx, rfl⟩ := hpre r h4
      exact hi.clo x hx (by rw [show x.i = e.on from h5]; exact hon) j h6
  obtain ⟨f1, f2, f3, f4⟩ := hi.fut p hp hb
  obtain ⟨ag1, ag2⟩ := agree_in (e0 := e0) hi.hok hp hb hi.clo hbits
  have mk : ∀ (a' : Act) (w' : World) (s' : St), s'.U = U → s.n = s'.n → (∀ l, l ≠ base + p.i ∨ p.o.i.news = false → s'.ρ l = s.ρ l) → Rel s' h w' → GlobR s' w' G → Step s0 w0 s' w' → EnvR s' w' (envF B' e0 hs) a' → a'.defers = [] → a'.tmps.size = N →
      Inv P N ops C U G base nw e0 s0 w0 Φ B' a' w' hs rest ps h s' := by
    intro a' w' s' q1 q2 q3 q4 q5 q6 q7 q8 q9
    refine { hok := hi.hok, rok := hi.rok, rop := hi.rop, cov := hi.cov, run := hi.run, sub := fun j hj => ?_, clo := fun q hq hbq j hj => ?_, fut := fun q hq hbq => ?_, new := fun r hr hn => ?_, top := fun hh => by rw [← q2]; exact hi.top hh, bot := hi.bot, hsU := q1, rel := q4, glob := q5, step := q6, env := q7, defers := q8, size := q9 }
    · rw [hB'] at hj
      simp only [Bool.or_eq_true, beq_iff_eq] at hj
      rcases hj with hj | hj
      · exact hi.sub j hj
      · exact ⟨p, hp, hj.symm⟩
    · rw [hB'] at hbq ⊢
      simp only [Bool.or_eq_true, beq_iff_eq] at hbq ⊢
      rcases hbq with hbq | hbq
      · exact .inl (hi.clo q hq hbq j hj)
      · left
        have uniq : ∀ {l : List Hs}, HOk P N ops e0 l → ∀ x ∈ l, ∀ y ∈ l, x.i = y.i → x = y := by
          intro l
          induction l with
          | nil => intro _ x hx; cases hx
          | cons z l ih =>
            intro hk x hx y hy hxy
            obtain ⟨k1, _, _, k4⟩ := hk
            rcases List.mem_cons.1 hx with e1 | e1 <;> rcases List.mem_cons.1 hy with e2 | e2
            · rw [e1, e2]
            · subst e1; exact absurd hxy.symm (k1.ne y.t (List.mem_map_of_mem e2))
            · subst e2; exact absurd hxy (k1.ne x.t (List.mem_map_of_mem e1))
            · exact ih k4 x e1 y e2 hxy
        have := uniq hi.hok q hq p hp hbq
        subst this
        exact hbits j hj
    · rw [hB'] at hbq
      simp only [Bool.or_eq_false_iff, beq_eq_false_iff_ne, ne_eq] at hbq
      obtain ⟨g1, g2, g3, g4⟩ := hi.fut q hq hbq.1
      refine ⟨g1, g2, g3, fun hn => ⟨(g4 hn).1, (g4 hn).2.1, ?_⟩⟩
      rw [q3 _ (.inl (by omega))]; exact (g4 hn).2.2
    · obtain ⟨g1, g2⟩ := hi.new r hr hn
      refine ⟨g1, ?_⟩
      by_cases hrp : base + r.1 = base + p.i
      · exfalso
        have hne : ∀ (l : List (Nat × O × Nat)) (pre : List (Nat × O × Nat)), okRest P N ops pre l = true → p.t ∈ pre → ∀ r ∈ l, r.1 ≠ p.i := by
          intro l
          induction l with
          | nil => intro _ _ _ r hr; cases hr
          | cons z l ih =>
            intro pre hk hpp r hr
            obtain ⟨zi, zo, zm⟩ := z
            simp only [okRest, Bool.and_eq_true] at hk
            rcases List.mem_cons.1 hr with e | e
            · subst e
              exact fun e => (okOne_spec hk.1).ne p.t hpp e.symm
            · exact ih _ hk.2 (List.mem_cons_of_mem _ hpp) r e
        exact hne rest _ hi.rok (List.mem_map_of_mem hp) r hr (by omega)
      · rw [q3 _ (.inl hrp)]; exact g2
  by_cases hn : p.o.i.news = true
  ·
    obtain ⟨n1, n2, n3⟩ := f4 hn
    have hg := one.bare hn
    have hlt := ops_lt hop
    have htop := hi.top n1
    have hlow := hi.rel.low
    obtain ⟨pd, pi⟩ : ∃ z t, p.o.i = .new z t := by
      cases hx : p.o.i <;> first | exact ⟨_, _, rfl⟩ | (rw [hx] at hn; cases hn)
    obtain ⟨t, pi⟩ := pi
    have hget : h.get (base + p.i) = some (.cells pd t (some 0)) := by
      have := f2
      simp only [okAt, pi, n2] at this
      exact this
    rcases cOper_spec hco with hbad | ⟨c1, c2, c3, c4⟩
    · rw [hbad] at pi; cases pi
    · rw [pi] at c1
      have hopop : op.op = .alloc t ∧ zeroOf P t = some pd := by
        cases hx : op.op with
        | alloc t' =>
          rw [hx] at c1
          simp only [cOp] at c1
          split at c1
          · rename_i z hz
            injection c1 with c1; injection c1 with e1 e2
            subst e1; subst e2
            exact ⟨rfl, hz⟩
          · cases c1
        | makeFunc f x y =>
          rw [hx] at c1
          cases f <;> simp [cOp, Option.bind_eq_some_iff] at c1
        | makeMap t r =>
          rw [hx] at c1
          cases r <;> simp only [cOp] at c1 <;> first | (cases c1; done) | skip
          split at c1 <;> cases c1
        | call c =>
          rw [hx] at c1
          simp only [cOp, cCall] at c1
          repeat' (split at c1)
          all_goals first
            | (cases c1; done)
            | (simp [Option.bind_eq_some_iff] at c1; done)
        | _ =>
          rw [hx] at c1
          simp only [cOp] at c1
          repeat' (split at c1)
          all_goals first
            | (cases c1; done)
            | (simp [Option.bind_eq_some_iff] at c1; done)
      obtain ⟨inf, zv, z1, z2, z3, z4, z5⟩ := zeroOf_VR (s := s) (w := w) hopop.2
      obtain ⟨r1, r2⟩ := alloc_at hi.rel n3 (by omega) hget z4 z5
      have hst : Step s0 w0 (s.add (base + p.i) (w.heap.size, 0, zv.cells.size)) (w.alloc (.cells zv.cells t (0, 0))) := by
        refine ⟨hi.step.toMono.trans r2, hi.step.n, fun l hl => ?_⟩
        have hbot := hi.bot
        simp only [St.add]
        rw [if_neg (by omega)]
        exact hi.step.low l hl
      have hrun : (execOp a.eval op).run P w = .ok (.value (.pointer (some ⟨w.heap.size, 0, none⟩))) (w.alloc (.cells zv.cells t (0, 0))) := by
        simp [execOp, hopop.1, Instr.alloc, zeroValue, typeInfo, z1, z2, newVar, newRow]
      have hw := wanted_gd (ops := ops) (d := p.o.d) (i := p.o.i) (b := true) c2 hi.env (by simp [gd, hg])
      unfold Once
      rw [hw]
      refine .inl ?_
      simp only [Oper.wp, hrun, Oper.upon_value]
      have hvp : VR (s.add (base + p.i) (w.heap.size, 0, zv.cells.size)) (w.alloc (.cells zv.cells t (0, 0))) p.v (.pointer (some ⟨w.heap.size, 0, none⟩)) := by
        rw [n2]; exact VR_new_ptr (add_self _ _ _)
      refine hK _ _ _ (mk _ _ (s.add (base + p.i) (w.heap.size, 0, zv.cells.size)) hi.hsU rfl (fun l hl => ?_) r1 (hi.glob.mono' r2 hi.rel.apart) hst ?_ (by rw [put_defers]; exact hi.defers) (by rw [put_size]; exact hi.size))
      · rcases hl with hl | hl
        · simp only [St.add]; rw [if_neg hl]
        · rw [hn] at hl; cases hl
      · have := (hi.env.mono' r2 hi.rel.apart).put hvp (d := op.dst) (by rw [hi.size]; exact c4)
        refine this.of_get fun t => ?_
        rw [ag2 B' hB' t, get_put, c3]
  · have hn' : p.o.i.news = false := by simpa using hn
    rw [okAt_quiet (by exact hn')] at f2
    have hq : qv U G p.o (envF B e0 hs) h = some p.v := by
      rw [qv_congr ag1]; exact f2
    refine once_quiet hBs hi.hsU hi.rel hi.glob hi.env hco f1 hq fun r hr => ?_
    rcases cOper_spec hco with hbad | ⟨c1, c2, c3, c4⟩
    · rw [hbad] at f1; cases f1
    · refine hK _ _ _ (mk _ _ _ hi.hsU rfl (fun _ _ => rfl) hi.rel hi.glob hi.step ?_ (by rw [put_defers]; exact hi.defers) (by rw [put_size]; exact hi.size))
      have := hi.env.put hr (d := op.dst) (by rw [hi.size]; exact c4)
      refine this.of_get fun t => ?_
      rw [ag2 B' hB' t, get_put, c3]
theorem Inv.next (hBs : Base P U G C) {a : Act} {w : World} {hs : List Hs} {i : Nat} {o : O} {m : Nat} {tl : List (Nat × O × Nat)} {ps : List Pd} {h : H} {s : St} (hi : Inv P N ops C U G base nw e0 s0 w0 Φ B a w hs ((i, o, m) :: tl) ps h s) (hact : o.i.acts = true)
    {op : Oper} (hop : ops[i]? = some op) (hrd : ∀ e ∈ op.after, Region.binds .any e = true → B e.on = true) (hB' : ∀ j, B' j = (B j || j == i)) {K : Act → World → Prop} {Q : Exit → Act → World → Prop}
    (hK : ∀ a' w' hs' ps' h' s', Inv P N ops C U G base nw e0 s0 w0 Φ B' a' w' hs' tl ps' h' s' → K a' w') : Once P ops op a w K Q := by
  have hrok := hi.rok
  simp only [okRest, Bool.and_eq_true] at hrok
  obtain ⟨r1, r2⟩ := hrok
  have one := okOne_spec r1
  obtain ⟨op', hop', hco⟩ := hi.rop (i, o, m) List.mem_cons_self
  simp only at hop' hco
  rw [hop] at hop'; injection hop' with e; subst e
  have hbits : ∀ j, m.testBit j = true → B j = true := by
    intro j hj
    obtain ⟨e, h1, h2, h3⟩ := one.bits op hop j hj
    have hon := hrd e h1 h2
    rcases h3 with h3 | ⟨r, h4, h5, h6⟩
    · rw [← h3]; exact hon
    · obtain ⟨x, hx, rfl⟩ := List.mem_map.1 h4
      exact hi.clo x hx (by rw [show x.i = e.on from h5]; exact hon) j h6
  have hni : ∀ p ∈ hs, p.i ≠ i := fun p hp => one.ne p.t (List.mem_map_of_mem hp)
  have hag := agree_older (B := B) (e0 := e0) (hs := hs) (o := o) (m := m) (fun p hp hc => one.conf p.t (List.mem_map_of_mem hp) hc) hbits
  have hrun := hi.run
  simp only [rD, hact, if_true] at hrun
  have hrun' := act_congr (e' := envF B e0 hs) (fun t ht => (hag t ht).symm) hrun
  rcases cOper_spec hco with hbad | ⟨c1, c2, c3, c4⟩
  · rw [hbad] at hrun'; exact hrun'.elim
  · refine once_act hBs hi.hsU hi.rel hi.glob hi.env hco hrun' fun v h' s' w' r k1 k2 k3 k4 => ?_
    obtain ⟨k1, k5⟩ := k1
    refine hK _ _ (⟨i, o, m, envF (fun _ => true) e0 hs, v⟩ :: hs) (still m ps) h' s' ?_
    have hsame : envF B' e0 hs = envF B e0 hs := envF_same fun p hp => by rw [hB']; simp [hni p hp]
    have hB'i : B' i = true := by rw [hB']; simp
    refine { hok := ⟨one, rfl, ⟨op, hop, hco⟩, hi.hok⟩, rok := r2, rop := fun r hr => hi.rop r (List.mem_cons_of_mem _ hr), cov := fun j hj => ?_, run := by simpa only [envF, if_true] using k5, sub := fun j hj => ?_, clo := fun p hp hb j hj => ?_, fut := fun p hp hb => ?_, new := fun r hr hn => ?_, top := fun hh => Nat.le_trans (hi.top hh) k3.n, bot := hi.bot, hsU := k3.ext.U.trans hi.hsU, rel := k2, glob := hi.glob.mono k3 hi.rel.apart, step := hi.step.trans k3, env := ?_, defers := by rw [put_defers]; exact hi.defers, size := by rw [put_size]; exact hi.size }
    · rcases hi.cov j hj with ⟨p, hp, e⟩ | ⟨r, hr, e⟩
      · exact .inl ⟨p, List.mem_cons_of_mem _ hp, e⟩
      · rcases List.mem_cons.1 hr with e' | e'
        · subst e'; exact .inl ⟨_, List.mem_cons_self, e⟩
        · exact .inr ⟨r, e', e⟩
    · rw [hB'] at hj
      simp only [Bool.or_eq_true, beq_iff_eq] at hj
      rcases hj with hj | hj
      · obtain ⟨p, hp, e⟩ := hi.sub j hj
        exact ⟨p, List.mem_cons_of_mem _ hp, e⟩
      · exact ⟨_, List.mem_cons_self, hj.symm⟩
    · rw [hB']
      simp only [Bool.or_eq_true]
      left
      rcases List.mem_cons.1 hp with e | e
      · subst e; exact hbits j hj
      · rw [hB'] at hb
        simp only [Bool.or_eq_true, beq_iff_eq] at hb
        rcases hb with hb | hb
        · exact hi.clo p e hb j hj
        · exact absurd hb (hni p e)
    · rcases List.mem_cons.1 hp with e | e
      · subst e; simp only at hb; rw [hB'i] at hb; cases hb
      · rw [hB'] at hb
        simp only [Bool.or_eq_false_iff] at hb
        obtain ⟨f1, f2, f3, f4⟩ := hi.fut p e hb.1
        have hm : m.testBit p.i = false := by
          cases hx : m.testBit p.i with
          | false => rfl
          | true => have := hbits _ hx; rw [hb.1] at this; cases this
        refine ⟨f1, ?_, fun hh => still_mem hm (f3 hh), fun hn => ⟨(f4 hn).1, (f4 hn).2.1, ?_⟩⟩
        · by_cases hh : (p.o.i.reads || p.o.i.news) = true
          · exact okAll_mem k1 _ (f3 hh) hm
          · simp only [Bool.or_eq_true, not_or, Bool.not_eq_true] at hh
            rw [okAt_quiet (by exact hh.2)] at f2 ⊢
            rw [← f2]
            exact qv_pure hh.1 f1
        · have hlt : p.i < ops.size := by
            have : ∀ {l : List Hs}, HOk P N ops e0 l → p ∈ l → p.i < ops.size := by
              intro l
              induction l with
              | nil => intro _ h; cases h
              | cons q l ih =>
                intro hk hpl
                rcases List.mem_cons.1 hpl with e | e
                · subst e; obtain ⟨_, _, ⟨op', k3, _⟩, _⟩ := hk; exact ops_lt k3
                · exact ih hk.2.2.2 e
            exact this hi.hok e
          have := hi.top (f4 hn).1
          rw [k3.low _ (by omega)]; exact (f4 hn).2.2
    · obtain ⟨g1, g2⟩ := hi.new r (List.mem_cons_of_mem _ hr) hn
      obtain ⟨op', q1, _⟩ := hi.rop r (List.mem_cons_of_mem _ hr)
      have := ops_lt q1
      have := hi.top g1
      exact ⟨g1, by rw [k3.low _ (by omega)]; exact g2⟩
    · simp only [envF, hB'i, if_true, hsame]
      rw [c3]
      exact (hi.env.mono k3 hi.rel.apart).put k4 (by rw [hi.size]; exact c4)
end
end Go.Eng
