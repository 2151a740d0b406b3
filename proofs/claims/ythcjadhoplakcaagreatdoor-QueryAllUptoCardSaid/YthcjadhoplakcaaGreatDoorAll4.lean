/- The law QueryAll of package grommetlaw24 answers true and turns no argument, for all arguments that are together of bulk at most 1048576; condition: the listed package variables start as the program's text lays them. (part 4.) -/
import Derived.Test.YthcjadhoplakcaaGreatDoorAll3
import Derived.Laws.BytesArg
set_option linter.unusedSimpArgs false
set_option linter.unusedVariables false
namespace Go.Eng
section
variable {P : Program} {s : St} {h : H} {w : World} {G : Nat → AV} {e : Env} {a : Act} {U : List (TypeId × TypeId)}
theorem bytesOf_sound : ∀ {cs : List AV} {l : List Nat} {rs : List Value}, bytesOf cs = some l → VRs s w cs rs → ∃ xs : List Int, rs = xs.map (Value.int .u8) ∧ l = xs.map fun n => (UInt8.ofNat n.toNat).toNat
  | [], l, rs, hb, hv => by simp only [bytesOf] at hb; injection hb with hb; subst hb; simp only [VRs] at hv; subst hv; exact ⟨[], rfl, rfl⟩
  | c :: cs, l, rs, hb, hv => by
    unfold bytesOf at hb
    split at hb
    · cases ‹c :: cs = []›
    · rename_i n r heq
      injection heq with e1 e2
      subst e1; subst e2
      split at hb
      · rename_i l' hl'
        injection hb with hb
        subst hb
        simp only [VRs] at hv
        obtain ⟨x, rs', rfl, h1, h2⟩ := hv
        obtain ⟨xs, rfl, rfl⟩ := bytesOf_sound hl' h2
        have := VR_int h1
        subst this
        exact ⟨n :: xs, rfl, rfl⟩
      · cases hb
    · cases hb
theorem q_conv {o : Oper} {sT dT : TypeId} {x : Operand} (hU : ∀ t u, U.contains (t, u) = true → size P t = some 2 ∧ ∀ k, liesAt P P.depth t (k + 1) 0 u 1 = true) (hsU : s.U = U) (hop : o.op = .convert sT dT x) (hr : Rel s h w) (hG : GlobR s w G) (he : EnvR s w e a) {i : I} (hq : i.acts = false) (hc : cOp P o.op = some i) {v : AV} (hv : evQ U G i e h = some v) : QOK P s w o a v := by
  rw [hop] at hc
  simp only [cOp] at hc
  have fin : ∀ r, (convert sT dT (a.eval x)).run P w = .ok r w → VR s w v r → QOK P s w o a v := by
    intro r h1 h2
    exact ⟨r, by simp [execOp, hop, h1], h2⟩
  split at hc
  ·
    rename_i k1 k2 hs hd
    obtain ⟨y, hy, rfl⟩ := do_some hc
    have hx := cX_VR hG he hy
    simp only [evQ] at hv
    split at hv
    · rename_i k n hl
      rw [hl] at hx
      injection hv with hv; subst hv
      have := VR_int hx
      refine fin (.int k2 (k2.wrap n)) ?_ (by simp only [VR]; rw [wr_eq])
      rw [this]
      simp only [convert, Sem.run_bind, run_underlying hs, run_underlying hd, Result.andThen_ok]
      rfl
    · cases hv
  · rename_i k1 hs hd
    obtain ⟨y, hy, rfl⟩ := do_some hc
    have hx := cX_VR hG he hy
    simp only [evQ] at hv
    split at hv
    · rename_i k n hl
      rw [hl] at hx
      injection hv with hv; subst hv
      have := VR_int hx
      refine fin (.string (Utf8.encode n)) ?_ (by simp only [VR]; exact ⟨_, rfl, rfl⟩)
      rw [this]
      simp only [convert, Sem.run_bind, run_underlying hs, run_underlying hd, Result.andThen_ok]
      rfl
    · cases hv
  · rename_i el hs hd
    split at hc
    · rename_i hel
      obtain ⟨y, hy, rfl⟩ := do_some hc
      have hx := cX_VR hG he hy
      simp only [evQ] at hv
      split at hv
      · rename_i hl
        rw [hl] at hx
        injection hv with hv; subst hv
        have hxn : a.eval x = .slice none 0 0 := by simpa only [VR] using hx
        refine fin (.string ByteArray.empty) ?_ (by simp only [VR]; exact ⟨_, rfl, rfl⟩)
        rw [hxn]
        exact run_convert_bytes_nil w sT el hs hel 0 0 dT hd
      · rename_i hnn
        split at hv
        · rename_i m cs hsrc
          split at hv
          · rename_i l hl
            injection hv with hv; subst hv
            obtain ⟨A, c, rs, h1, h2, h3, h4, h5⟩ := srcOf_sound hr hx hsrc
            obtain ⟨xs, rfl, rfl⟩ := bytesOf_sound hl h2
            refine fin (.string (strOfNums xs)) ?_ (by simp only [VR]; exact ⟨_, rfl, by rw [strOfNums_data]; simp⟩)
            rw [h1]
            rcases h5 with ⟨rfl, rfl, h6⟩ | ⟨ad, rfl, h6⟩
            · have hx0 : xs = [] := by simpa using h6
              subst hx0
              exact run_convert_bytes_nil w sT el hs hel 0 c dT hd
            · by_cases hm : m = 0
              · subst hm
                have hx0 : xs = [] := by simpa using h4
                subst hx0
                simp only [convert, Sem.run_bind, run_underlying hs, run_underlying hd, run_underlying hel, Result.andThen_ok]
                rfl
              · have hlen : xs.length = m := by simpa using h4
                have hspot : ad.spot = none := by
                  have := h6 0 (.int .u8 (xs.getD 0 0)) (by simp [List.getElem?_eq_getElem (show 0 < xs.length by omega), List.getD])
                  simp only [Addr.add, if_pos, World.cell?] at this
                  split at this
                  · split at this
                    · cases this
                    · rename_i hn; simpa using hn
                  · cases this
                obtain ⟨b, off, spot⟩ := ad
                simp only at hspot
                subst hspot
                refine run_convert_bytes_arg w sT el hs hel b off m c xs hlen (fun j hj => ?_) dT hd
                have := h6 j (.int .u8 (xs.getD j 0)) (by simp [List.getElem?_eq_getElem (show j < xs.length by omega), List.getD])
                rwa [addr_add] at this
          · cases hv
        · cases hv
    · cases hc
  ·
    split at hc
    · obtain ⟨y, hy, rfl⟩ := do_some hc; cases hq
    · cases hc
  · rename_i t hs hd
    split at hc
    · rename_i n hn
      obtain ⟨y, hy, rfl⟩ := do_some hc
      have hx := cX_VR hG he hy
      simp only [evQ] at hv
      split at hv
      · rename_i hl
        rw [hl] at hx
        injection hv with hv; subst hv
        have hxn : a.eval x = .pointer none := by simpa only [VR] using hx
        refine fin (.pointer none) ?_ (by simp only [VR])
        rw [hxn]
        simp [convert, Conv.unsafePointer, run_underlying hs, run_underlying hd]
      · rename_i l off hl
        rw [hl] at hx
        split at hv
        · rename_i cs ty fz hget
          split at hv
          · rename_i hlt
            injection hv with hv; subst hv
            obtain ⟨b, d, m, h1, h2⟩ := VR_ptr hx
            refine fin (a.eval x) ?_ hx
            obtain ⟨c, lo, hi, g1, _, g3, g4, _⟩ := hr.obj l b d m _ h1 hget
            have hsh : w.shape? b = some (ty, c.size) := by simp [World.shape?, g1]
            rw [h2]
            have hne : ¬ (c.size ≤ d + off) := by omega
            simp [convert, Conv.unsafePointer, run_underlying hs, run_underlying hd, Conv.seenAt, viewAt, shape, Sem.run, hsh, cellsIn, sizeOf_run hn, hne]
          · cases hv
        · cases hv
      · cases hv
    · cases hc
  · rename_i u hs hd
    split at hc
    · rename_i n hn
      obtain ⟨y, hy, rfl⟩ := do_some hc
      have hx := cX_VR hG he hy
      simp only [evQ] at hv
      split at hv
      · rename_i hl
        rw [hl] at hx
        injection hv with hv; subst hv
        have hxn : a.eval x = .pointer none := by simpa only [VR] using hx
        refine fin (.pointer none) ?_ (by simp only [VR])
        rw [hxn]
        simp [convert, Conv.unsafePointer, run_underlying hs, run_underlying hd]
      · rename_i l hl
        rw [hl] at hx
        split at hv
        · rename_i cs ty fz hget
          split at hv
          · rename_i hcond
            injection hv with hv; subst hv
            obtain ⟨b, d, m, h1, h2⟩ := VR_ptr hx
            refine fin (a.eval x) ?_ hx
            obtain ⟨c, lo, hi, g1, _, g3, g4, _, _, g5⟩ := hr.obj l b d m _ h1 hget
            have hsh : w.shape? b = some (ty, c.size) := by simp [World.shape?, g1]
            obtain ⟨hk0, hlie⟩ := hU ty u hcond.2
            have hd0 : d = 0 := g5 u (by rw [hsU]; exact hcond.2)
            subst hd0
            rw [h2]
            have hcells : P.cellsOf ty = 2 := by
              obtain ⟨inf, hinf, hsz⟩ := Option.map_eq_some_iff.1 hk0
              simp [Program.cellsOf, hinf, hsz]
            have hlies : liesAt P P.depth ty (c.size / P.cellsOf ty) 0 u 1 = true := by
              have hpos : 0 < c.size / P.cellsOf ty := by
                rw [hcells]
                exact Nat.div_pos (by have := hcond.1; omega) (by omega)
              obtain ⟨q, hq⟩ : ∃ q, c.size / P.cellsOf ty = q + 1 := ⟨c.size / P.cellsOf ty - 1, by omega⟩
              rw [hq]
              exact hlie q
            simp [convert, Conv.unsafePointer, run_underlying hs, run_underlying hd, Conv.seenAt, viewAt, shape, Sem.run, hsh, sizeOf_run hn, variablesAt, hlies]
          · cases hv
        · cases hv
      · cases hv
    · cases hc
  · cases hc
theorem fold_run {f : AV → AV → Option AV} {g : Value → Value → Sem Value} (hfg : ∀ x y z u v, f x y = some z → VR s w x u → VR s w y v → ∃ r, (g u v).run P w = .ok r w ∧ VR s w z r) :
    ∀ (ys : List AV) (x z : AV) (u : Value) (vs : List Value), foldO f x ys = some z → VR s w x u → VRs s w ys vs → ∃ r, (vs.foldlM g u).run P w = .ok r w ∧ VR s w z r
  | [], x, z, u, vs, hf, hx, hy => by
    simp only [foldO] at hf; injection hf with hf; subst hf
    simp only [VRs] at hy; subst hy
    exact ⟨u, rfl, hx⟩
  | y :: ys, x, z, u, vs, hf, hx, hy => by
    simp only [foldO] at hf
    split at hf
    · rename_i c hc
      simp only [VRs] at hy
      obtain ⟨r, rs', rfl, h1, h2⟩ := hy
      obtain ⟨q, hq, hq'⟩ := hfg x y c u r hc hx h1
      obtain ⟨r2, k1, k2⟩ := fold_run hfg ys c z q rs' hf hq' h2
      exact ⟨r2, by simp [List.foldlM_cons, hq, k1], k2⟩
    · cases hf
theorem min_run {x y z : AV} {u v : Value} (hf : evMin x y = some z) (hx : VR s w x u) (hy : VR s w y v) : ∃ r, (Builtin.min2 u v).run P w = .ok r w ∧ VR s w z r := by
  unfold evMin at hf
  split at hf
  · split at hf
    · rename_i hk
      subst hk
      injection hf with hf; subst hf
      have h1 := VR_int hx
      have h2 := VR_int hy
      subst h1; subst h2
      exact ⟨_, rfl, by simp only [VR]⟩
    · cases hf
  · cases hf
theorem max_run {x y z : AV} {u v : Value} (hf : evMax x y = some z) (hx : VR s w x u) (hy : VR s w y v) : ∃ r, (Builtin.max2 u v).run P w = .ok r w ∧ VR s w z r := by
  unfold evMax at hf
  split at hf
  · split at hf
    · rename_i hk
      subst hk
      injection hf with hf; subst hf
      have h1 := VR_int hx
      have h2 := VR_int hy
      subst h1; subst h2
      exact ⟨_, rfl, by simp only [VR]⟩
    · cases hf
  · cases hf
theorem q_call {o : Oper} {c : Call} (hop : o.op = .call c) (hr : Rel s h w) (hG : GlobR s w G) (he : EnvR s w e a) {i : I} (hq : i.acts = false) (hc : cOp P o.op = some i) {v : AV} (hv : evQ U G i e h = some v) : QOK P s w o a v := by
  rw [hop] at hc
  simp only [cOp, cCall] at hc
  obtain ⟨callee, args, argTypes⟩ := c
  simp only at hc
  split at hc
  · simp only [Option.bind_eq_bind, Option.bind_eq_some_iff, Option.some.injEq] at hc; obtain ⟨_, _, rfl⟩ := hc; cases hq
  · simp only [Option.bind_eq_bind, Option.bind_eq_some_iff, Option.some.injEq] at hc; obtain ⟨_, _, _, _, rfl⟩ := hc; cases hq
  · cases hc
  · rename_i b
    have fin : ∀ (x : Value), (builtin b argTypes o.type (args.map fun | .const _ => true | _ => false) (args.map a.eval)).run P w = .ok (.value x) w → VR s w v x → QOK P s w o a v := by
      intro x h1 h2
      refine ⟨x, ?_, h2⟩
      simp only [execOp, hop, resolve, Sem.run_bind, Sem.run_pure, Result.andThen_ok, invoke]
      exact h1
    split at hc
    ·
      rename_i x t hargs htys
      have ha : args = #[x] := by cases args; simp at hargs; rw [hargs]
      have ht : argTypes = #[t] := by cases argTypes; simp at htys; rw [htys]
      subst ha; subst ht
      split at hc <;> first | (cases hc; done) | skip
      · rename_i hu
        obtain ⟨y, hy, rfl⟩ := do_some hc
        have hx := cX_VR hG he hy
        simp only [evQ] at hv
        split at hv <;> first | (cases hv; done) | skip
        · rename_i l _ hl
          rw [hl] at hx
          injection hv with hv; subst hv
          obtain ⟨bs, h1, h2⟩ := VR_str hx
          refine fin (.int .i64 bs.size) (by simp [builtin, Builtin.len_, run_underlying hu, h1, goInt]) ?_
          simp only [VR]; rw [str_len h2]
        all_goals contradiction
      · rename_i el hu
        obtain ⟨y, hy, rfl⟩ := do_some hc
        have hx := cX_VR hG he hy
        simp only [evQ] at hv
        split at hv <;> first | (cases hv; done) | skip
        · contradiction
        · rename_i hl
          rw [hl] at hx
          injection hv with hv; subst hv
          have hxn : a.eval x = .slice none 0 0 := by simpa only [VR] using hx
          exact fin (.int .i64 0) (by simp [builtin, Builtin.len_, run_underlying hu, hxn, goInt]) (by simp only [VR])
        · rename_i n _ _ _ hl
          rw [hl] at hx
          injection hv with hv; subst hv
          obtain ⟨_, _, _, _, _, _, h1, _⟩ := VR_sl hx
          exact fin (.int .i64 n) (by simp [builtin, Builtin.len_, run_underlying hu, h1, goInt]) (by simp only [VR])
        · rename_i es _ hl
          rw [hl] at hx
          injection hv with hv; subst hv
          obtain ⟨_, _, h1, _⟩ := VR_fsl hx
          exact fin (.int .i64 es.length) (by simp [builtin, Builtin.len_, run_underlying hu, h1, goInt]) (by simp only [VR])
        all_goals contradiction
      · rename_i kt el hu
        obtain ⟨y, hy, rfl⟩ := do_some hc
        have hx := cX_VR hG he hy
        simp only [evQ] at hv
        split at hv <;> first | (cases hv; done) | skip
        · contradiction
        · contradiction
        · contradiction
        · contradiction
        · rename_i hl
          rw [hl] at hx
          injection hv with hv; subst hv
          have hxn : a.eval x = .map none := by simpa only [VR] using hx
          exact fin (.int .i64 0) (by simp [builtin, Builtin.len_, run_underlying hu, hxn, goInt]) (by simp only [VR])
        · rename_i l _ hl
          rw [hl] at hx
          split at hv <;> first | (cases hv; done) | skip
          rename_i es hget
          injection hv with hv; subst hv
          simp only [VR] at hx
          obtain ⟨b, d, m, h1, h2⟩ := hx
          obtain ⟨en, clock, g1, g2, _⟩ := hr.obj l b d m _ h1 hget
          have hl := VRs_length g2
          simp at hl
          refine fin (.int .i64 en.size) ?_ (by simp only [VR]; rw [hl])
          simp [builtin, Builtin.len_, run_underlying hu, h2, getObj, Sem.run, g1, goInt]
    ·
      obtain ⟨ys, hys, rfl⟩ := do_some hc
      have hx := cXs_VR hG he hys
      simp only [evQ] at hv
      split at hv
      · rename_i x0 r heq
        rw [heq] at hx
        simp only [VRs] at hx
        obtain ⟨u, us, h1, h2, h3⟩ := hx
        obtain ⟨q, k1, k2⟩ := fold_run (P := P) (f := evMin) (g := Builtin.min2) (fun x y z u v h1 h2 h3 => min_run h1 h2 h3) r x0 v u us hv h2 h3
        refine fin q ?_ k2
        have hl : (args.map a.eval).toList = u :: us := by rw [Array.toList_map, h1]
        simp only [builtin, Builtin.min_, hl, Sem.run_bind, k1, Result.andThen_ok]
        rfl
      · cases hv
    ·
      obtain ⟨ys, hys, rfl⟩ := do_some hc
      have hx := cXs_VR hG he hys
      simp only [evQ] at hv
      split at hv
      · rename_i x0 r heq
        rw [heq] at hx
        simp only [VRs] at hx
        obtain ⟨u, us, h1, h2, h3⟩ := hx
        obtain ⟨q, k1, k2⟩ := fold_run (P := P) (f := evMax) (g := Builtin.max2) (fun x y z u v h1 h2 h3 => max_run h1 h2 h3) r x0 v u us hv h2 h3
        refine fin q ?_ k2
        have hl : (args.map a.eval).toList = u :: us := by rw [Array.toList_map, h1]
        simp only [builtin, Builtin.max_, hl, Sem.run_bind, k1, Result.andThen_ok]
        rfl
      · cases hv
    ·
      split at hc <;> first | (cases hc; done) | skip
      all_goals
        split at hc <;> first | (cases hc; done) | skip
        split at hc <;> first | (cases hc; done) | skip
        split at hc <;> first | (cases hc; done) | skip
        simp only [Option.bind_eq_bind, Option.bind_eq_some_iff, Option.some.injEq] at hc
        obtain ⟨_, _, _, _, rfl⟩ := hc
        cases hq
    ·
      split at hc <;> first | (cases hc; done) | skip
      all_goals
        split at hc <;> first | (cases hc; done) | skip
        simp only [Option.bind_eq_bind, Option.bind_eq_some_iff, Option.some.injEq] at hc
        obtain ⟨_, _, _, _, rfl⟩ := hc
        cases hq
    ·
      split at hc <;> first | (cases hc; done) | skip
      split at hc <;> first | (cases hc; done) | skip
      obtain ⟨_, _, rfl⟩ := do_some hc
      cases hq
    ·
      split at hc <;> first | (cases hc; done) | skip
      split at hc <;> first | (cases hc; done) | skip
      simp only [Option.bind_eq_bind, Option.bind_eq_some_iff, Option.some.injEq] at hc
      obtain ⟨_, _, _, _, rfl⟩ := hc
      cases hq
    ·
      rename_i x hargs
      have ha : args = #[x] := by cases args; simp at hargs; rw [hargs]
      subst ha
      obtain ⟨y, hy, rfl⟩ := do_some hc
      have hx := cX_VR hG he hy
      simp only [evQ] at hv
      split at hv <;> first | (cases hv; done) | skip
      · rename_i hl
        rw [hl] at hx
        injection hv with hv; subst hv
        have hxn : a.eval x = .slice none 0 0 := by simpa only [VR] using hx
        refine fin (.pointer none) ?_ (by simp only [VR])
        have ha1 : #[x].map a.eval = #[.slice none 0 0] := by simp [hxn]
        rw [ha1]; rfl
      · rename_i l off sz len cap ex hl
        rw [hl] at hx
        split at hv
        · rename_i hcap
          injection hv with hv; subst hv
          obtain ⟨b, d, m, ad, c, h1, h2, h3, h4⟩ := VR_sl hx
          rcases h4 with ⟨rfl, h5, h6, h7⟩ | ⟨_, _, h5, _⟩
          · refine fin (.pointer (some ⟨b, d + off, none⟩)) ?_ (by simp only [VR]; exact ⟨b, d, m, h1, rfl⟩)
            have hne : ¬ c = 0 := by omega
            have ha1 : #[x].map a.eval = #[.slice (some ⟨b, d + off, none⟩) len c] := by simp [h2]
            rw [ha1]
            show ((if c ≠ 0 then pure (.pointer (some ⟨b, d + off, none⟩)) else _ : Sem Value) >>= fun v => pure (Next.value v)).run P w = _
            rw [if_pos hne]; rfl
          · omega
        · cases hv
    ·
      split at hc <;> first | (cases hc; done) | skip
      split at hc <;> first | (cases hc; done) | skip
      simp only [Option.bind_eq_bind, Option.bind_eq_some_iff, Option.some.injEq] at hc
      obtain ⟨_, _, _, _, rfl⟩ := hc
      cases hq
    · cases hc
end
end Go.Eng
namespace Go.Eng
section
variable {P : Program} {s : St} {h : H} {w : World} {G : Nat → AV} {e : Env} {a : Act} {U : List (TypeId × TypeId)}
def FindR (s : St) (w : World) : Option (Nat × AV) → Option (Nat × Value) → Prop
  | none, r => r = none
  | some (i, v), r => ∃ x, r = some (i, x) ∧ VR s w v x
theorem find_asking (hr : Rel s h w) {q : KT} {kt : TypeId} (hq : ktOf P kt = some q) {k : AV} {kv : Value} (hk : VR s w k kv) : ∀ (es : List (AV × AV)) (en : List MapEntry) (i : Nat) (r : Option (Nat × AV)),
    VRs s w (es.map (·.1)) (en.map (·.key)) → VRs s w (es.map (·.2)) (en.map (·.val)) → findK h q k es i = some r → ∃ r', (Instr.findAsking kt kv en i).run P w = .ok r' w ∧ FindR s w r r'
  | [], en, i, r, h1, _, hf => by
    simp only [List.map_nil, VRs, List.map_eq_nil_iff] at h1
    subst h1
    simp only [findK] at hf
    injection hf with hf; subst hf
    exact ⟨none, by simp [Instr.findAsking], rfl⟩
  | (k', v') :: es, en, i, r, h1, h2, hf => by
    cases en with
    | nil => simp only [List.map_cons, List.map_nil, VRs] at h1; obtain ⟨_, _, e, _⟩ := h1; cases e
    | cons x en =>
      simp only [List.map_cons, VRs] at h1 h2
      obtain ⟨_, _, e1, hk', h1⟩ := h1
      obtain ⟨_, _, e2, hv', h2⟩ := h2
      injection e1 with e1 e1'
      injection e2 with e2 e2'
      subst e1; subst e1'; subst e2; subst e2'
      simp only [findK] at hf
      split at hf
      · rename_i heq
        injection hf with hf; subst hf
        have := eqKey_run (P := P) hr hk hk' heq hq
        exact ⟨some (i, x.val), by simp [Instr.findAsking, this], _, rfl, hv'⟩
      · rename_i heq
        have := eqKey_run (P := P) hr hk hk' heq hq
        obtain ⟨r', g1, g2⟩ := find_asking hr hq hk es en (i + 1) r h1 h2 hf
        exact ⟨r', by simp [Instr.findAsking, this, g1], g2⟩
      · cases hf
theorem sameNow_run {d : TypeDesc} {kt : TypeId} (hd : P.underlying kt = some d) {u v : Value} {b : Bool} (h1 : Instr.sameNow d u v = some b) : (Op.equal kt u v).run P w = .ok b w := by
  have aux : ∀ n, (Op.equalIn (n + 1) kt u v).run P w = .ok b w := by
    intro n
    unfold Instr.sameNow at h1
    split at h1
    · split at h1
      · rename_i hk
        subst hk
        injection h1 with h1; subst h1
        simp [Op.equalIn, run_underlying hd]
      · cases h1
    · injection h1 with h1; subst h1
      simp [Op.equalIn, run_underlying hd]
    · injection h1 with h1; subst h1
      simp [Op.equalIn, run_underlying hd]
    · cases h1
  exact aux 9999
theorem find_now (hr : Rel s h w) {q : KT} {kt : TypeId} {d : TypeDesc} (hq : ktOf P kt = some q) (hd : P.underlying kt = some d) {k : AV} {kv : Value} (hk : VR s w k kv) : ∀ (es : List (AV × AV)) (en : List MapEntry) (i : Nat) (r : Option (Nat × AV)) (r' : Option (Nat × Value)),
    VRs s w (es.map (·.1)) (en.map (·.key)) → VRs s w (es.map (·.2)) (en.map (·.val)) → findK h q k es i = some r → Instr.findNow d kv en i = some r' → FindR s w r r'
  | [], en, i, r, r', h1, _, hf, hn => by
    simp only [List.map_nil, VRs, List.map_eq_nil_iff] at h1
    subst h1
    simp only [findK] at hf
    simp only [Instr.findNow] at hn
    injection hf with hf; subst hf
    injection hn with hn; subst hn
    rfl
  | (k', v') :: es, en, i, r, r', h1, h2, hf, hn => by
    cases en with
    | nil => simp only [List.map_cons, List.map_nil, VRs] at h1; obtain ⟨_, _, e, _⟩ := h1; cases e
    | cons x en =>
      simp only [List.map_cons, VRs] at h1 h2
      obtain ⟨_, _, e1, hk', h1⟩ := h1
      obtain ⟨_, _, e2, hv', h2⟩ := h2
      injection e1 with e1 e1'
      injection e2 with e2 e2'
      subst e1; subst e1'; subst e2; subst e2'
      simp only [findK] at hf
      simp only [Instr.findNow] at hn
      have agree : ∀ b b', eqKey h q k k' = some b → Instr.sameNow d kv x.key = some b' → b = b' := by
        intro b b' g1 g2
        have e1 := eqKey_run (P := P) hr hk hk' g1 hq
        have e2 := sameNow_run (P := P) (w := w) hd g2
        rw [e1] at e2
        injection e2
      split at hf
      · rename_i heq
        injection hf with hf; subst hf
        split at hn
        · injection hn with hn; subst hn
          exact ⟨x.val, rfl, hv'⟩
        · rename_i hs; have := agree _ _ heq hs; cases this
        · cases hn
      · rename_i heq
        split at hn
        · rename_i hs; have := agree _ _ heq hs; cases this
        · exact find_now hr hq hd hk es en (i + 1) r r' h1 h2 hf hn
        · cases hn
      · cases hf
theorem find_run (hr : Rel s h w) {q : KT} {kt : TypeId} (hq : ktOf P kt = some q) {k : AV} {kv : Value} (hk : VR s w k kv) {es : List (AV × AV)} {en : List MapEntry} {r : Option (Nat × AV)}
    (h1 : VRs s w (es.map (·.1)) (en.map (·.key))) (h2 : VRs s w (es.map (·.2)) (en.map (·.val))) (hf : findK h q k es 0 = some r) : ∃ r', (Instr.findKey kt kv en).run P w = .ok r' w ∧ FindR s w r r' := by
  have hd : ∃ d, P.underlying kt = some d := by
    unfold ktOf at hq
    cases hu : P.underlying kt with
    | none => simp [hu, kkOf] at hq
    | some d => exact ⟨d, rfl⟩
  obtain ⟨d, hd⟩ := hd
  simp only [Instr.findKey, Sem.run_bind, run_underlying hd, Result.andThen_ok]
  cases hn : Instr.findNow d kv en 0 with
  | some r' => exact ⟨r', by simp, find_now hr hq hd hk es en 0 r r' h1 h2 hf hn⟩
  | none =>
    obtain ⟨r', g1, g2⟩ := find_asking (P := P) hr hq hk es en 0 r h1 h2 hf
    exact ⟨r', by simpa using g1, g2⟩
theorem check_fields (n : Nat) (em : Bool) (xs : Array Value) : ∀ (fs : List Field) (j : Nat) (ks : List KK), kksOf P fs j = some ks → j + ks.length ≤ xs.size →
    ((forIn fs PUnit.unit fun f (_ : PUnit) => if f.name ≠ "_" then do
        let x ← part f.type xs f.offset
        Instr.checkKey em (n + 1) f.type x
        pure (ForInStep.yield PUnit.unit)
      else pure (ForInStep.yield PUnit.unit)) : Sem PUnit).run P w = .ok PUnit.unit w
  | [], j, ks, _, _ => by simp
  | f :: fs, j, ks, hk, hl => by
    simp only [kksOf] at hk
    split at hk
    · rename_i hf
      split at hk
      · rename_i k ks' hk1 hks
        injection hk with hk; subst hk
        simp at hl
        have hpt : ∃ x, xs[j]? = some x := ⟨_, Array.getElem?_eq_getElem (by omega)⟩
        obtain ⟨x, hx⟩ := hpt
        have hp : (part f.type xs f.offset).run P w = .ok x w := by simp [part, kk_notAgg hk1, hf.2, hx]
        have hck : (Instr.checkKey em (n + 1) f.type x).run P w = .ok () w := by
          unfold kkOf at hk1
          split at hk1 <;> first | (cases hk1; done) | skip
          all_goals rename_i hu; simp [Instr.checkKey, run_underlying hu]
        have ih := check_fields n em xs fs (j + 1) ks' hks (by omega)
        simp only [List.forIn_cons, Sem.run_bind]
        simp only [hf.1, ne_eq, not_false_eq_true, if_true, Sem.run_bind, hp, Result.andThen_ok, hck, Sem.run_pure]
        exact ih
      · cases hk
    · cases hk
theorem check_run {q : KT} {kt : TypeId} (hq : ktOf P kt = some q) {k : AV} {kv : Value} (hk : VR s w k kv) (hok : keyOk q k = true) (em : Bool) : (Instr.checkKey em 10000 kt kv).run P w = .ok () w := by
  have aux : ∀ n, (Instr.checkKey em (n + 1 + 1) kt kv).run P w = .ok () w := by
    intro n
    unfold ktOf at hq
    split at hq
    · rename_i fs hu
      split at hq
      · rename_i ks hks
        split at hq
        · injection hq with hq; subst hq
          cases k <;> simp only [keyOk] at hok <;> first | (cases hok; done) | skip
          rename_i aas
          obtain ⟨vs, rfl, h1, _⟩ := VR_agg hk
          have hl := VRs_length h1
          simp at hl hok
          have := check_fields (P := P) (w := w) n em vs fs.toList 0 ks hks (by omega)
          rw [Instr.checkKey]
          simp only [Sem.run_bind, run_underlying hu, Result.andThen_ok]
          rw [← Array.forIn_toList]
          simp at this
          simp [this]
        · cases hq
      · cases hq
    · obtain ⟨kk, hkk, rfl⟩ := Option.map_eq_some_iff.1 hq
      unfold kkOf at hkk
      split at hkk <;> first | (cases hkk; done) | skip
      all_goals rename_i hu; simp [Instr.checkKey, run_underlying hu]
  exact aux 9998
theorem zeroAV_VR {t : TypeId} {z : AV} (hz : zeroAV P t = some z) : ∃ v, (zeroValue t).run P w = .ok v w ∧ VR s w z v := by
  unfold zeroAV at hz
  obtain ⟨v, hv, hz⟩ := Option.bind_eq_some_iff.1 hz
  obtain ⟨i, hi, hiz⟩ := Option.bind_eq_some_iff.1 hv
  exact ⟨v, by simp [zeroValue, typeInfo, hi, hiz], constVa_VR s w hz⟩
theorem q_lk {o : Oper} {t : TypeId} {m k : Operand} {ok : Bool} (hop : o.op = .lookup t m k ok) (hr : Rel s h w) (hG : GlobR s w G) (he : EnvR s w e a) {i : I} (hc : cOp P o.op = some i) {v : AV} (hv : evQ U G i e h = some v) : QOK P s w o a v := by
  rw [hop] at hc
  simp only [cOp] at hc
  split at hc
  · rename_i kt el hu
    split at hc
    · rename_i z q hz hq
      simp only [Option.bind_eq_bind, Option.bind_eq_some_iff, Option.some.injEq] at hc
      obtain ⟨m', hm, k', hk, rfl⟩ := hc
      have hmv := cX_VR hG he hm
      have hkv := cX_VR hG he hk
      obtain ⟨zv, hzr, hzv⟩ := zeroAV_VR (P := P) (s := s) (w := w) hz
      have wrap : ∀ {x : AV} {u : Value} {b : Bool}, VR s w x u → VR s w (if ok then .tup [x, .bool b] else x) (if ok then .tuple #[u, .bool b] else u) := by
        intro x u b hxu
        cases ok
        · exact hxu
        · simp only [if_true, VR]
          exact ⟨_, rfl, by simp only [VRs]; exact ⟨u, _, rfl, hxu, _, [], rfl, by simp only [VR], rfl⟩⟩
      simp only [evQ] at hv
      split at hv
      · rename_i hl
        rw [hl] at hmv
        have hmn : a.eval m = .map none := by simpa only [VR] using hmv
        split at hv
        · rename_i hok
          injection hv with hv; subst hv
          refine ⟨_, ?_, wrap hzv⟩
          have hck := check_run (P := P) (s := s) hq hkv hok true
          obtain ⟨r', hf, hfr⟩ := find_run (P := P) (es := []) (en := []) hr hq hkv (by simp [VRs]) (by simp [VRs]) (r := none) rfl
          simp only [FindR] at hfr
          subst hfr
          simp [execOp, hop, Instr.lookup, run_underlying hu, hmn, hck, hf, hzr]
        · cases hv
      · rename_i l hl
        rw [hl] at hmv
        split at hv
        · rename_i es hget
          split at hv
          · rename_i hok
            simp only [VR] at hmv
            obtain ⟨b, d, mm, h1, h2⟩ := hmv
            obtain ⟨en, clock, g1, g2, g3⟩ := hr.obj l b d mm _ h1 hget
            have hck := check_run (P := P) (s := s) hq hkv hok en.isEmpty
            split at hv
            · rename_i j x hfind
              injection hv with hv; subst hv
              obtain ⟨r', hf, hfr⟩ := find_run (P := P) hr hq hkv g2 g3 hfind
              obtain ⟨u, rfl, hu'⟩ := hfr
              refine ⟨_, ?_, wrap hu'⟩
              simp [execOp, hop, Instr.lookup, run_underlying hu, h2, getObj, Sem.run, g1, hck, hf]
            · rename_i hfind
              injection hv with hv; subst hv
              obtain ⟨r', hf, hfr⟩ := find_run (P := P) hr hq hkv g2 g3 hfind
              simp only [FindR] at hfr
              subst hfr
              refine ⟨_, ?_, wrap hzv⟩
              simp [execOp, hop, Instr.lookup, run_underlying hu, h2, getObj, Sem.run, g1, hck, hf, hzr]
            · cases hv
          · cases hv
        · cases hv
      · cases hv
    · cases hc
  · cases hc
theorem evQ_sound (hU : ∀ t u, U.contains (t, u) = true → size P t = some 2 ∧ ∀ k, liesAt P P.depth t (k + 1) 0 u 1 = true) (hsU : s.U = U) {o : Oper} (hr : Rel s h w) (hG : GlobR s w G) (he : EnvR s w e a) {i : I} (hq : i.acts = false) (hc : cOp P o.op = some i) {v : AV} (hv : evQ U G i e h = some v) : QOK P s w o a v := by
  cases hop : o.op with
  | move x => exact q_mv (.inl hop) hG he hc hv
  | assign x => exact q_mv (.inr hop) hG he hc hv
  | pick c x y => exact q_pick hop hG he hc hv
  | fieldAddr t x f => exact q_fad hop hG he hc hv
  | field t x f => exact q_fld hop hG he hc hv
  | indexAddr t x ix => exact q_iad hop hG he hc hv
  | index t x ix => exact q_ix hop hG he hc hv
  | extract x n => exact q_ext hop hG he hc hv
  | slice t x lo hi mx =>
    have hc' := hc
    rw [hop] at hc'
    simp only [cOp] at hc'
    split at hc'
    · rename_i hu; exact q_sS hop hu hG he hc hv
    · rename_i hu; exact q_sL hop hu hG he hc hv
    · rename_i hu; exact q_sA hop hu hr hG he hc hv
    · cases hc'
  | nilCheck x => exact q_nck hop hG he hc hv
  | build t ps => exact q_bld hop hG he hc hv
  | binOp op t x y ty => exact q_bin hop hr hG he hc hv
  | unOp op t x => exact q_un hop hG he hc hv
  | convert t u x => exact q_conv hU hsU hop hr hG he hq hc hv
  | makeInterface t x => exact q_mkI hop hG he hc hv
  | makeFunc f x y => exact q_mkF hop hG he hc hv
  | load t x => exact q_ld hop hr hG he hc hv
  | lookup t m k ok => exact q_lk hop hr hG he hc hv
  | call c => exact q_call hop hr hG he hq hc hv
  | alloc t =>
    rw [hop] at hc; simp only [cOp] at hc
    split at hc <;> first | (cases hc; done) | (injection hc with hc; subst hc; simp only [evQ] at hv; cases hv)
  | box t x =>
    rw [hop] at hc; simp only [cOp] at hc
    split at hc <;> first | (cases hc; done) | (obtain ⟨_, _, rfl⟩ := do_some hc; cases hq)
  | buildSlice t n ps =>
    rw [hop] at hc; simp only [cOp] at hc
    split at hc <;> first | (cases hc; done) | skip
    split at hc <;> first | (cases hc; done) | skip
    split at hc <;> first | (cases hc; done) | (obtain ⟨_, _, rfl⟩ := do_some hc; cases hq)
  | store t x y =>
    rw [hop] at hc; simp only [cOp] at hc
    split at hc <;> first | (cases hc; done) | skip
    simp only [Option.bind_eq_bind, Option.bind_eq_some_iff, Option.some.injEq] at hc
    obtain ⟨_, _, _, _, rfl⟩ := hc
    cases hq
  | makeMap t r =>
    rw [hop] at hc
    cases r <;> simp only [cOp] at hc <;> first | (cases hc; done) | skip
    split at hc <;> first | (cases hc; done) | (injection hc with hc; subst hc; cases hq)
  | makeSlice t n c =>
    rw [hop] at hc; simp only [cOp] at hc
    split at hc <;> first | (cases hc; done) | skip
    split at hc <;> first | (cases hc; done) | skip
    split at hc <;> first | (cases hc; done) | skip
    simp only [Option.bind_eq_bind, Option.bind_eq_some_iff, Option.some.injEq] at hc
    obtain ⟨_, _, _, _, rfl⟩ := hc
    cases hq
  | mapUpdate t m k x =>
    rw [hop] at hc; simp only [cOp] at hc
    split at hc <;> first | (cases hc; done) | skip
    split at hc <;> first | (cases hc; done) | skip
    simp only [Option.bind_eq_bind, Option.bind_eq_some_iff, Option.some.injEq] at hc
    obtain ⟨_, _, _, _, _, _, rfl⟩ := hc
    cases hq
  | insert t m k x =>
    rw [hop] at hc; simp only [cOp] at hc
    split at hc <;> first | (cases hc; done) | skip
    split at hc <;> first | (cases hc; done) | skip
    simp only [Option.bind_eq_bind, Option.bind_eq_some_iff, Option.some.injEq] at hc
    obtain ⟨_, _, _, _, _, _, rfl⟩ := hc
    cases hq
  | _ => rw [hop] at hc; simp only [cOp] at hc; cases hc
end
end Go.Eng
