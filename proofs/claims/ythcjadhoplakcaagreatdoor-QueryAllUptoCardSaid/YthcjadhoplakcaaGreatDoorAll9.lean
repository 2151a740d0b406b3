/- The law QueryAll of package grommetlaw24 answers true and turns no argument, for all arguments that are together of bulk at most 1048576; condition: the listed package variables start as the program's text lays them. (part 9.) -/
import Derived.Test.YthcjadhoplakcaaGreatDoorAll8
import Derived.KernelRfl
set_option linter.unusedSimpArgs false
set_option linter.unusedVariables false
namespace Go.Eng
theorem FnOk.of {P : Program} {f : FuncId} {fn : Func} {N : Nat} {rs : List RV} {S : S} (lv : List (List Nat)) (hf : P.funcs[f]? = some fn) (h1 : fn.body.isSome = true) (h2 : (fn.name == "runtime.NumGoroutine") = false) (h3 : fn.ntmps = N) (h4 : (comp P N (fn.body.getD .skip) lv).1 = S)
    (h5 : cRVs P fn.results.toList = some rs) (h6 : Nat.ble rs.length 4 = true) : FnOk P f ⟨N, rs, S⟩ := by
  obtain ⟨c, hc⟩ := Option.isSome_iff_exists.1 h1
  rw [hc] at h4
  exact ⟨fn, c, lv, hf, hc, h2, h3, h4, h5, Nat.le_of_ble_eq_true h6⟩
abbrev O.s (d : Nat) (i : I) : O := ⟨some d, i, none⟩
abbrev O.n (i : I) : O := ⟨none, i, none⟩
abbrev O.y (d : Nat) (i : I) (g : Nat) : O := ⟨some d, i, some (g, true)⟩
abbrev O.z (d : Nat) (i : I) (g : Nat) : O := ⟨some d, i, some (g, false)⟩
inductive FT where
  | e
  | n (l : FT) (k : Nat) (v : FI) (r : FT)
def FT.get : FT → Nat → Option FI
  | .e, _ => none
  | .n l k v r, f => if Nat.beq f k then some v else if Nat.blt f k then l.get f else r.get f
def FT.All (P : Program) : FT → Prop
  | .e => True
  | .n l k v r => FT.All P l ∧ FnOk P k v ∧ FT.All P r
theorem FT.ok {P : Program} : ∀ {t : FT}, t.All P → ∀ f fi, t.get f = some fi → FnOk P f fi
  | .e, _, f, fi, h => by cases h
  | .n l k v r, ha, f, fi, h => by
    obtain ⟨h1, h2, h3⟩ := ha
    simp only [FT.get] at h
    split at h
    · rename_i hk
      injection h with h; subst h
      have := Nat.eq_of_beq_eq_true hk
      subst this
      exact h2
    · split at h
      · exact FT.ok h1 f fi h
      · exact FT.ok h3 f fi h
theorem run_val {F : CF} {f : FuncId} {xs : List AV} {h : H} {v : AV} (hr : (F f xs h).map (·.1) = some v) : ∃ h', F f xs h = some (v, h') := by
  obtain ⟨p, h1, h2⟩ := Option.map_eq_some_iff.1 hr
  exact ⟨p.2, by rw [h1, ← h2]⟩
end Go.Eng
namespace Go.Eng
mutual
def AV.cl (p : Nat → Bool) : AV → Bool
  | .ptr l _ => p l
  | .sl l _ _ _ _ _ => p l
  | .map l => p l
  | .fptr cs => AV.clL p cs
  | .fsl _ _ es => AV.clL p es
  | .fn _ a b => AV.clL p a && AV.clL p b
  | .iface _ v => AV.cl p v
  | .agg cs => AV.clL p cs
  | .tup cs => AV.clL p cs
  | _ => true
def AV.clL (p : Nat → Bool) : List AV → Bool
  | [] => true
  | c :: cs => AV.cl p c && AV.clL p cs
end
section
variable {p : Nat → Bool} {s s' : St} {w : World}
mutual
theorem VR_cl (hρ : ∀ l x, p l = true → s.ρ l = some x → s'.ρ l = some x) (hF : ∀ b, s.F b → s'.F b) : ∀ {x : AV} {v : Value}, x.cl p = true → VR s w x v → VR s' w x v
  | .any, _, _, _ => by simp only [VR]
  | .bool b, v, _, h => by simpa only [VR] using h
  | .int _ n, v, _, h => by simpa only [VR] using h
  | .str l, v, _, h => by simpa only [VR] using h
  | .nilp, v, _, h => by simpa only [VR] using h
  | .nils, v, _, h => by simpa only [VR] using h
  | .nilm, v, _, h => by simpa only [VR] using h
  | .nilf, v, _, h => by simpa only [VR] using h
  | .nili, v, _, h => by simpa only [VR] using h
  | .ptr l off, v, c, h => by
    simp only [VR] at h ⊢
    simp only [AV.cl] at c
    obtain ⟨b, d, m, h1, h2⟩ := h
    exact ⟨b, d, m, hρ _ _ c h1, h2⟩
  | .fptr cs, v, c, h => by
    simp only [VR] at h ⊢
    simp only [AV.cl] at c
    obtain ⟨a, rs, h1, h2, h3, h4, h5, h6, h7⟩ := h
    exact ⟨a, rs, h1, VRs_cl hρ hF c h2, h3, hF _ h4, h5, h6, h7⟩
  | .sl l off sz len cap ex, v, c, h => by
    simp only [VR] at h ⊢
    simp only [AV.cl] at c
    obtain ⟨b, d, m, ad, cc, h1, h2⟩ := h
    exact ⟨b, d, m, ad, cc, hρ _ _ c h1, h2⟩
  | .fsl full sz es, v, c, h => by
    simp only [VR] at h ⊢
    simp only [AV.cl] at c
    obtain ⟨A, cc, h1, h2, h3, h4⟩ := h
    refine ⟨A, cc, h1, h2, h3, h4.imp id ?_⟩
    rintro ⟨a, rs, h5, h6, h7, h8, h9, h11, h10⟩
    exact ⟨a, rs, h5, VRs_cl hρ hF c h6, hF _ h7, h8, h9, h11, h10⟩
  | .map l, v, c, h => by
    simp only [VR] at h ⊢
    simp only [AV.cl] at c
    obtain ⟨b, d, m, h1, h2⟩ := h
    exact ⟨b, d, m, hρ _ _ c h1, h2⟩
  | .fn f first cap, v, c, h => by
    simp only [VR] at h ⊢
    simp only [AV.cl, Bool.and_eq_true] at c
    obtain ⟨vs, us, h1, h2, h3⟩ := h
    exact ⟨vs, us, h1, VRs_cl hρ hF c.1 h2, VRs_cl hρ hF c.2 h3⟩
  | .iface t x, v, c, h => by
    simp only [VR] at h ⊢
    simp only [AV.cl] at c
    obtain ⟨y, h1, h2⟩ := h
    exact ⟨y, h1, VR_cl hρ hF c h2⟩
  | .agg cs, v, c, h => by
    simp only [VR] at h ⊢
    simp only [AV.cl] at c
    obtain ⟨vs, h1, h2, h3⟩ := h
    exact ⟨vs, h1, VRs_cl hρ hF c h2, h3⟩
  | .tup cs, v, c, h => by
    simp only [VR] at h ⊢
    simp only [AV.cl] at c
    obtain ⟨vs, h1, h2⟩ := h
    exact ⟨vs, h1, VRs_cl hρ hF c h2⟩
theorem VRs_cl (hρ : ∀ l x, p l = true → s.ρ l = some x → s'.ρ l = some x) (hF : ∀ b, s.F b → s'.F b) : ∀ {xs : List AV} {vs : List Value}, AV.clL p xs = true → VRs s w xs vs → VRs s' w xs vs
  | [], _, _, h => by simpa only [VRs] using h
  | x :: xs, vs, c, h => by
    simp only [AV.clL, Bool.and_eq_true] at c
    simp only [VRs] at h ⊢
    obtain ⟨r, rs', h1, h2, h3⟩ := h
    exact ⟨r, rs', h1, VR_cl hρ hF c.1 h2, VRs_cl hρ hF c.2 h3⟩
end
/-! ### freezing -/
def mkE (sz : Nat) (cs : List AV) : AV :=
  match sz, cs with
  | 1, [v] => v
  | _, cs => .agg cs
def chunks (sz : Nat) : Nat → List AV → List AV
  | 0, _ => []
  | n + 1, cs => mkE sz (cs.take sz) :: chunks sz n (cs.drop sz)
def mkU (sz : Nat) (cs : List Value) : Value :=
  match sz, cs with
  | 1, [v] => v
  | _, cs => .agg cs.toArray
def chunksU (sz : Nat) : Nat → List Value → List Value
  | 0, _ => []
  | n + 1, cs => mkU sz (cs.take sz) :: chunksU sz n (cs.drop sz)
theorem mkE_VR {sz : Nat} {cs : List AV} {us : List Value} (h : VRs s w cs us) (hl : ∀ c ∈ cs, c.leaf = true) (hlen : cs.length = sz) : VR s w (mkE sz cs) (mkU sz us) ∧ (mkE sz cs).elt = true ∧ (mkU sz us).cells.toList = us := by
  have hul := VRs_length h
  have big : ∀ (hne : ¬ ∃ v, sz = 1 ∧ cs = [v]), VR s w (mkE sz cs) (mkU sz us) ∧ (mkE sz cs).elt = true ∧ (mkU sz us).cells.toList = us := by
    intro hne
    have e1 : mkE sz cs = .agg cs := by
      unfold mkE
      split
      · exact absurd ⟨_, rfl, rfl⟩ hne
      · rfl
    have e2 : mkU sz us = .agg us.toArray := by
      unfold mkU
      split
      · exfalso
        rename_i u
        cases cs with
        | nil => simp at hul
        | cons c cs =>
          cases cs with
          | nil => exact hne ⟨c, rfl, rfl⟩
          | cons c' cs => simp at hul
      · rfl
    rw [e1, e2]
    exact ⟨by simp only [VR]; exact ⟨_, rfl, by simpa using h, hl⟩, rfl, by simp [Value.cells]⟩
  by_cases hne : ∃ v, sz = 1 ∧ cs = [v]
  · obtain ⟨v, rfl, rfl⟩ := hne
    simp only [VRs] at h
    obtain ⟨r, rs', rfl, h1, h2⟩ := h
    subst h2
    have hv := hl v (by simp)
    have h3 := VR_oneCell h1 hv
    refine ⟨h1, ?_, ?_⟩
    · show v.elt = true
      cases v <;> first | rfl | cases hv
    · show r.cells.toList = [r]
      cases r <;> first | rfl | cases h3
  · exact big hne
theorem chunks_VR {sz : Nat} : ∀ (n : Nat) {cs : List AV} {us : List Value}, VRs s w cs us → (∀ c ∈ cs, c.leaf = true) → cs.length = n * sz →
    VRs s w (chunks sz n cs) (chunksU sz n us) ∧ (∀ e ∈ chunks sz n cs, e.elt = true) ∧ ∀ i r, (chunksU sz n us)[i]? = some r → r.cells.toList = (us.drop (i * sz)).take sz ∧ (us.drop (i * sz)).length ≥ sz
  | 0, cs, us, _, _, _ => by
    refine ⟨by simp [chunks, chunksU, VRs], by simp [chunks], fun i r hr => ?_⟩
    simp [chunksU] at hr
  | n + 1, cs, us, h, hl, hlen => by
    have hul := VRs_length h
    have hm : (n + 1) * sz = n * sz + sz := by rw [Nat.add_mul, Nat.one_mul]
    obtain ⟨k1, k2, k3⟩ := mkE_VR (sz := sz) (VRs_take h sz) (fun c hc => hl c (List.mem_of_mem_take hc)) (by rw [List.length_take]; omega)
    obtain ⟨j1, j2, j3⟩ := chunks_VR (sz := sz) n (VRs_drop h sz) (fun c hc => hl c (List.mem_of_mem_drop hc)) (by simp; omega)
    refine ⟨by simp only [chunks, chunksU, VRs]; exact ⟨_, _, rfl, k1, j1⟩, fun e he => ?_, fun i r hr => ?_⟩
    · simp only [chunks] at he
      rcases List.mem_cons.1 he with e1 | e1
      · subst e1; exact k2
      · exact j2 e e1
    · simp only [chunksU] at hr
      cases i with
      | zero =>
        simp only [List.getElem?_cons_zero, Option.some.injEq] at hr
        subst hr
        refine ⟨by simpa using k3, by simp; omega⟩
      | succ i =>
        simp only [List.getElem?_cons_succ] at hr
        obtain ⟨q1, q2⟩ := j3 i r hr
        have : sz + i * sz = (i + 1) * sz := by rw [Nat.add_mul, Nat.one_mul]; omega
        rw [List.drop_drop, this] at q1 q2
        exact ⟨q1, q2⟩
theorem chunks_len (sz : Nat) : ∀ (n : Nat) (cs : List AV), (chunks sz n cs).length = n
  | 0, _ => rfl
  | n + 1, cs => by simp [chunks, chunks_len sz n]
mutual
def fz (p : Nat → Bool) (h : H) : Nat → AV → Option AV
  | 0, _ => none
  | d + 1, .ptr l o => if p l then some (.ptr l o) else match h.get l with
    | some (.cells cs _ _) => match fzL p h d (cs.drop o) with
      | some r => some (.fptr r)
      | none => none
    | _ => none
  | d + 1, .sl l off sz len cap ex => if p l then some (.sl l off sz len cap ex) else match h.get l with
    | some (.cells cs _ _) => match sub cs off (len * sz) with
      | some r => match fzL p h d r with
        | some r' => some (.fsl (ex && cap == len) sz (chunks sz len r'))
        | none => none
      | none => none
    | _ => none
  | _ + 1, .map l => if p l then some (.map l) else none
  | _ + 1, .fptr cs => if AV.clL p cs then some (.fptr cs) else none
  | _ + 1, .fsl f z es => if AV.clL p es then some (.fsl f z es) else none
  | d + 1, .fn f a b => match fzL p h d a, fzL p h d b with
    | some a', some b' => some (.fn f a' b')
    | _, _ => none
  | d + 1, .iface t v => match fz p h d v with
    | some v' => some (.iface t v')
    | none => none
  | d + 1, .agg cs => match fzL p h d cs with
    | some r => some (.agg r)
    | none => none
  | d + 1, .tup cs => match fzL p h d cs with
    | some r => some (.tup r)
    | none => none
  | _ + 1, x => some x
def fzL (p : Nat → Bool) (h : H) : Nat → List AV → Option (List AV)
  | 0, _ => none
  | _ + 1, [] => some []
  | d + 1, c :: cs => match fz p h d c, fzL p h (d + 1) cs with
    | some c', some r => some (c' :: r)
    | _, _ => none
end
theorem fzL_length {h : H} : ∀ {d : Nat} {cs r : List AV}, fzL p h d cs = some r → r.length = cs.length
  | 0, _, _, e => by simp [fzL] at e
  | d + 1, [], r, e => by simp only [fzL, Option.some.injEq] at e; subst e; rfl
  | d + 1, c :: cs, r, e => by
    simp only [fzL] at e
    split at e
    · rename_i c' r' h1 h2
      injection e with e; subst e
      simp [fzL_length h2]
    · cases e
theorem fz_leaf {h : H} {d : Nat} {x y : AV} (e : fz p h d x = some y) (hl : x.leaf = true) : y.leaf = true := by
  cases d with
  | zero => simp [fz] at e
  | succ d =>
    cases x <;> simp only [fz] at e <;> first
      | (cases hl; done)
      | (injection e with e; subst e; first | rfl | exact hl)
      | (repeat' (split at e)
         all_goals first
          | (cases e; done)
          | (injection e with e; subst e; rfl))
theorem fzL_leaf {h : H} : ∀ {d : Nat} {cs r : List AV}, fzL p h d cs = some r → (∀ c ∈ cs, c.leaf = true) → ∀ c ∈ r, c.leaf = true
  | 0, _, _, e, _ => by simp [fzL] at e
  | d + 1, [], r, e, _ => by simp only [fzL, Option.some.injEq] at e; subst e; simp
  | d + 1, c :: cs, r, e, hl => by
    simp only [fzL] at e
    split at e
    · rename_i c' r' h1 h2
      injection e with e; subst e
      intro x hx
      rcases List.mem_cons.1 hx with e1 | e1
      · subst e1; exact fz_leaf h1 (hl c List.mem_cons_self)
      · exact fzL_leaf h2 (fun y hy => hl y (List.mem_cons_of_mem _ hy)) x e1
    · cases e
mutual
theorem fz_sound {h : H} (hr : Rel s h w) (hρ : ∀ l x, p l = true → s.ρ l = some x → s'.ρ l = some x) (hF : ∀ b, s.F b → s'.F b) (hN : ∀ l b d m, s.ρ l = some (b, d, m) → p l = false → (h.get l).isSome = true → s'.F b) :
    ∀ {d : Nat} {x y : AV} {v : Value}, fz p h d x = some y → VR s w x v → VR s' w y v
  | 0, _, _, _, e, _ => by simp [fz] at e
  | d + 1, .any, y, v, e, hv => by simp only [fz, Option.some.injEq] at e; subst e; simp only [VR]
  | d + 1, .bool b, y, v, e, hv => by simp only [fz, Option.some.injEq] at e; subst e; simpa only [VR] using hv
  | d + 1, .int k n, y, v, e, hv => by simp only [fz, Option.some.injEq] at e; subst e; simpa only [VR] using hv
  | d + 1, .str l, y, v, e, hv => by simp only [fz, Option.some.injEq] at e; subst e; simpa only [VR] using hv
  | d + 1, .nilp, y, v, e, hv => by simp only [fz, Option.some.injEq] at e; subst e; simpa only [VR] using hv
  | d + 1, .nils, y, v, e, hv => by simp only [fz, Option.some.injEq] at e; subst e; simpa only [VR] using hv
  | d + 1, .nilm, y, v, e, hv => by simp only [fz, Option.some.injEq] at e; subst e; simpa only [VR] using hv
  | d + 1, .nilf, y, v, e, hv => by simp only [fz, Option.some.injEq] at e; subst e; simpa only [VR] using hv
  | d + 1, .nili, y, v, e, hv => by simp only [fz, Option.some.injEq] at e; subst e; simpa only [VR] using hv
  | d + 1, .ptr l o, y, v, e, hv => by
    simp only [fz] at e
    split at e
    · rename_i hp
      injection e with e; subst e
      simp only [VR] at hv ⊢
      obtain ⟨b, d, m, h1, h2⟩ := hv
      exact ⟨b, d, m, hρ _ _ hp h1, h2⟩
    · rename_i hp
      split at e
      · rename_i cs t f hg
        split at e
        · rename_i r hfl
          injection e with e; subst e
          obtain ⟨b, dd, m, h1, h2⟩ := VR_ptr hv
          obtain ⟨rs, g1, g2, g3, g4⟩ := obj_read hr h1 hg
          simp only [VR]
          refine ⟨_, rs.drop o, h2, fzL_sound hr hρ hF hN hfl (VRs_drop g1 o), ?_, hN _ _ _ _ h1 (by simpa using hp) (by rw [hg]; rfl), (hr.lt _ _ _ _ h1).2, rfl, ?_⟩
          · intro j v hj
            rw [List.getElem?_drop] at hj
            have := g2 _ _ hj
            rw [addr_add] at this ⊢
            rw [← this]; congr 2; omega
          · exact fzL_leaf hfl fun c hc => g3 c (List.mem_of_mem_drop hc)
        · cases e
      · cases e
  | d + 1, .sl l off sz len cap ex, y, v, e, hv => by
    simp only [fz] at e
    split at e
    · rename_i hp
      injection e with e; subst e
      simp only [VR] at hv ⊢
      obtain ⟨b, d, m, ad, cc, h1, h2⟩ := hv
      exact ⟨b, d, m, ad, cc, hρ _ _ hp h1, h2⟩
    · rename_i hp
      split at e
      · rename_i cs t f hg
        split at e
        · rename_i r hsub
          split at e
          · rename_i r' hfl
            injection e with e; subst e
            obtain ⟨b, dd, m, ad, c, h1, h2, h3, h4⟩ := VR_sl hv
            simp only [VR]
            refine ⟨some ad, c, by rw [chunks_len]; exact h2, ?_, ?_, ?_⟩
            · rw [chunks_len]
              rcases h4 with ⟨_, q, _⟩ | ⟨q1, q2, q3, _⟩ <;> omega
            · rw [chunks_len]
              intro hx
              simp only [Bool.and_eq_true, beq_iff_eq] at hx
              rcases h4 with ⟨_, _, q, _⟩ | ⟨q1, q2, q3, q4⟩
              · rw [q hx.1, hx.2]
              · rw [q4] at hx; cases hx.1
            · rcases h4 with ⟨q1, q2, q3, q4⟩ | ⟨q1, q2, q3, q4⟩
              · right
                obtain ⟨rs, g1, g2, g3, g4⟩ := obj_read hr h1 hg
                obtain ⟨g5, g6⟩ := VRs_sub hsub g1
                have g7 := fzL_sound hr hρ hF hN hfl g5
                have g8 : ∀ c ∈ r, c.leaf = true := fun c hc => g3 c (sub_mem hsub hc)
                have g9 := (sub_some hsub).2.1
                obtain ⟨k1, k2, k3⟩ := chunks_VR (sz := sz) len g7 (fzL_leaf hfl g8) (by rw [fzL_length hfl, g9])
                subst q1
                refine ⟨_, _, rfl, k1, hN _ _ _ _ h1 (by simpa using hp) (by rw [hg]; rfl), (hr.lt _ _ _ _ h1).2, rfl, k2, fun i r hri => ?_⟩
                obtain ⟨j1, j2⟩ := k3 i r hri
                constructor
                · rw [← Array.length_toList, j1, List.length_take]; omega
                · rw [j1]
                  have := Holds_sub (Holds_sub g2 off (len * sz)) (i * sz) sz
                  rw [addr_add, addr_add] at this
                  rw [addr_add]
                  exact this
              · left
                subst q1
                rfl
          · cases e
        · cases e
      · cases e
  | d + 1, .map l, y, v, e, hv => by
    simp only [fz] at e
    split at e
    · rename_i hp
      injection e with e; subst e
      simp only [VR] at hv ⊢
      obtain ⟨b, d, m, h1, h2⟩ := hv
      exact ⟨b, d, m, hρ _ _ hp h1, h2⟩
    · cases e
  | d + 1, .fptr cs, y, v, e, hv => by
    simp only [fz] at e
    split at e
    · injection e with e; subst e
      exact VR_cl (p := p) hρ hF (by simpa only [AV.cl]) hv
    · cases e
  | d + 1, .fsl f z es, y, v, e, hv => by
    simp only [fz] at e
    split at e
    · injection e with e; subst e
      exact VR_cl (p := p) hρ hF (by simpa only [AV.cl]) hv
    · cases e
  | d + 1, .fn f a b, y, v, e, hv => by
    simp only [fz] at e
    split at e
    · rename_i a' b' h1 h2
      injection e with e; subst e
      simp only [VR] at hv ⊢
      obtain ⟨vs, us, k1, k2, k3⟩ := hv
      exact ⟨vs, us, k1, fzL_sound hr hρ hF hN h1 k2, fzL_sound hr hρ hF hN h2 k3⟩
    · cases e
  | d + 1, .iface t x, y, v, e, hv => by
    simp only [fz] at e
    split at e
    · rename_i v' h1
      injection e with e; subst e
      simp only [VR] at hv ⊢
      obtain ⟨z, k1, k2⟩ := hv
      exact ⟨z, k1, fz_sound hr hρ hF hN h1 k2⟩
    · cases e
  | d + 1, .agg cs, y, v, e, hv => by
    simp only [fz] at e
    split at e
    · rename_i r h1
      injection e with e; subst e
      simp only [VR] at hv ⊢
      obtain ⟨vs, k1, k2, k3⟩ := hv
      exact ⟨vs, k1, fzL_sound hr hρ hF hN h1 k2, fzL_leaf h1 k3⟩
    · cases e
  | d + 1, .tup cs, y, v, e, hv => by
    simp only [fz] at e
    split at e
    · rename_i r h1
      injection e with e; subst e
      simp only [VR] at hv ⊢
      obtain ⟨vs, k1, k2⟩ := hv
      exact ⟨vs, k1, fzL_sound hr hρ hF hN h1 k2⟩
    · cases e
theorem fzL_sound {h : H} (hr : Rel s h w) (hρ : ∀ l x, p l = true → s.ρ l = some x → s'.ρ l = some x) (hF : ∀ b, s.F b → s'.F b) (hN : ∀ l b d m, s.ρ l = some (b, d, m) → p l = false → (h.get l).isSome = true → s'.F b) :
    ∀ {d : Nat} {xs ys : List AV} {vs : List Value}, fzL p h d xs = some ys → VRs s w xs vs → VRs s' w ys vs
  | 0, _, _, _, e, _ => by simp [fzL] at e
  | d + 1, [], ys, vs, e, hv => by simp only [fzL, Option.some.injEq] at e; subst e; simpa only [VRs] using hv
  | d + 1, c :: cs, ys, vs, e, hv => by
    simp only [fzL] at e
    split at e
    · rename_i c' r' h1 h2
      injection e with e; subst e
      simp only [VRs] at hv ⊢
      obtain ⟨r, rs', k1, k2, k3⟩ := hv
      exact ⟨r, rs', k1, fz_sound hr hρ hF hN h1 k2, fzL_sound hr hρ hF hN h2 k3⟩
    · cases e
end
end
end Go.Eng
namespace Go.Eng
def Le (x y : AV) : Prop := ∀ s w v, VR s w x v → VR s w y v
theorem Le.refl (x : AV) : Le x x := fun _ _ _ h => h
theorem Le.any (x : AV) : Le x .any := fun _ _ _ _ => by simp only [VR]
theorem Le.nils (f : Bool) (sz : Nat) : Le .nils (.fsl f sz []) := fun s w v h => by
  simp only [VR] at h
  subst h
  unfold VR
  exact ⟨none, 0, rfl, Nat.le_refl _, fun _ => rfl, .inl rfl⟩
theorem Le.fsl (f : Bool) (sz : Nat) (es : List AV) : Le (.fsl f sz es) (.fsl false sz es) := fun s w v h => by
  unfold VR at h ⊢
  obtain ⟨A, c, h1, h2, h3, h4⟩ := h
  exact ⟨A, c, h1, h2, (fun e => nomatch e), h4⟩
def LeL : List AV → List AV → Prop
  | [], [] => True
  | x :: xs, y :: ys => Le x y ∧ LeL xs ys
  | _, _ => False
theorem VRs_le {s : St} {w : World} : ∀ {xs ys : List AV} {vs : List Value}, LeL xs ys → VRs s w xs vs → VRs s w ys vs
  | [], [], _, _, h => h
  | x :: xs, y :: ys, _, ⟨h1, h2⟩, h => by
    simp only [VRs] at h ⊢
    obtain ⟨r, rs', k1, k2, k3⟩ := h
    exact ⟨r, rs', k1, h1 _ _ _ k2, VRs_le h2 k3⟩
  | [], _ :: _, _, h, _ => h.elim
  | _ :: _, [], _, h, _ => h.elim
theorem Le.tup {xs ys : List AV} (h : LeL xs ys) : Le (.tup xs) (.tup ys) := fun s w v k => by
  simp only [VR] at k ⊢
  obtain ⟨vs, k1, k2⟩ := k
  exact ⟨vs, k1, VRs_le h k2⟩
def AObj.cl (p : Nat → Bool) : AObj → Bool
  | .cells cs _ _ => AV.clL p cs
  | .map es => AV.clL p (es.map (·.1)) && AV.clL p (es.map (·.2))
def fzO (p : Nat → Bool) (h : H) (d : Nat) : Option AObj → Option AObj
  | some (.cells cs t f) => match fzL p h d cs with
    | some r => some (.cells r t f)
    | none => none
  | some (.map es) => match fzL p h d (es.map (·.1)), fzL p h d (es.map (·.2)) with
    | some ks, some vs => some (.map (ks.zip vs))
    | _, _ => none
  | none => none
def H.sets (h : H) (up : List (Nat × AObj)) : H := up.foldl (fun a x => a.set x.1 x.2) h
theorem H.sets_next (up : List (Nat × AObj)) : ∀ h : H, (h.sets up).next = h.next := by
  induction up with
  | nil => intro h; rfl
  | cons x up ih => intro h; exact (ih (h.set x.1 x.2)).trans rfl
theorem H.get_sets (up : List (Nat × AObj)) : ∀ (h : H) (l : Nat), (l ∉ up.map (·.1) ∧ (h.sets up).get l = h.get l) ∨ ∃ o, (l, o) ∈ up ∧ (h.sets up).get l = some o := by
  induction up with
  | nil => intro h l; exact .inl ⟨by simp, rfl⟩
  | cons x up ih =>
    intro h l
    rcases ih (h.set x.1 x.2) l with ⟨h1, h2⟩ | ⟨o, h1, h2⟩
    · have h3 : (h.sets (x :: up)).get l = (h.set x.1 x.2).get l := h2
      rw [H.get_set] at h3
      by_cases hl : l = x.1
      · rw [if_pos hl] at h3
        exact .inr ⟨x.2, by rw [hl]; exact List.mem_cons_self, h3⟩
      · rw [if_neg hl] at h3
        refine .inl ⟨?_, h3⟩
        simp only [List.map_cons, List.mem_cons, not_or]
        exact ⟨hl, h1⟩
    · exact .inr ⟨o, List.mem_cons_of_mem _ h1, h2⟩
def H.only (h : H) (ls : List Nat) : H := ls.foldl (fun a l => a.put l (h.get l)) ⟨h.next, .nil⟩
theorem H.only_spec (h : H) : ∀ (ls : List Nat) (a : H), (ls.foldl (fun a l => a.put l (h.get l)) a).next = a.next ∧ ∀ l, (ls.foldl (fun a l => a.put l (h.get l)) a).get l = if l ∈ ls then h.get l else a.get l
  | [], a => ⟨rfl, fun l => by simp⟩
  | k :: ls, a => by
    obtain ⟨h1, h2⟩ := H.only_spec h ls (a.put k (h.get k))
    refine ⟨h1, fun l => ?_⟩
    rw [List.foldl_cons, h2 l, H.get_put]
    by_cases hl : l ∈ ls
    · simp [hl]
    · by_cases hk : l = k
      · subst hk; simp [hl]
      · simp [hl, hk]
theorem H.get_nil (n l : Nat) : (⟨n, .nil⟩ : H).get l = none := T.get_nil _ _
section
variable {P : Program} {G : Nat → AV} {U : List (TypeId × TypeId)}
theorem ObjR_cl {p : Nat → Bool} {s s' : St} {w : World} (hρ : ∀ l x, p l = true → s.ρ l = some x → s'.ρ l = some x) (hF : ∀ b, s.F b → s'.F b) (hU : s'.U = s.U) {b d m : Nat} {o : AObj} (hc : o.cl p = true) (h : ObjR s w b d m o) : ObjR s' w b d m o := by
  cases o with
  | cells cs e fz =>
    obtain ⟨c, lo, hi, h1, h2, h3, h4, h5, h6, h7⟩ := h
    exact ⟨c, lo, hi, h1, h2, h3, h4, h5, VRs_cl hρ hF hc h6, by rw [hU]; exact h7⟩
  | map es =>
    obtain ⟨en, clock, h1, h2, h3⟩ := h
    simp only [AObj.cl, Bool.and_eq_true] at hc
    exact ⟨en, clock, h1, VRs_cl hρ hF hc.1 h2, VRs_cl hρ hF hc.2 h3⟩
theorem fzO_sound {p : Nat → Bool} {s s' : St} {w : World} {h : H} (hr : Rel s h w) (hρ : ∀ l x, p l = true → s.ρ l = some x → s'.ρ l = some x) (hF : ∀ b, s.F b → s'.F b) (hN : ∀ l b d m, s.ρ l = some (b, d, m) → p l = false → (h.get l).isSome = true → s'.F b) (hU : s'.U = s.U)
    {dd b d m : Nat} {o o' : AObj} (hc : fzO p h dd (some o) = some o') (ho : ObjR s w b d m o) : ObjR s' w b d m o' := by
  cases o with
  | cells cs e f =>
    simp only [fzO] at hc
    split at hc
    · rename_i r h0
      injection hc with hc; subst hc
      obtain ⟨c, lo, hi, h1, h2, h3, h4, h5, h6, h7⟩ := ho
      refine ⟨c, lo, hi, h1, h2, h3, by rw [fzL_length h0]; exact h4, fzL_leaf h0 h5, ?_, by rw [hU]; exact h7⟩
      have := fzL_sound hr hρ hF hN h0 h6
      rw [fzL_length h0]; exact this
    · cases hc
  | map es =>
    simp only [fzO] at hc
    split at hc
    · rename_i ks vs h0 h0'
      injection hc with hc; subst hc
      obtain ⟨en, clock, h1, h2, h3⟩ := ho
      have l1 := fzL_length h0
      have l2 := fzL_length h0'
      simp only [List.length_map] at l1 l2
      refine ⟨en, clock, h1, ?_, ?_⟩
      · rw [List.map_fst_zip (by omega)]
        exact fzL_sound hr hρ hF hN h0 h2
      · rw [List.map_snd_zip (by omega)]
        exact fzL_sound hr hρ hF hN h0' h3
    · cases hc
theorem Spec.frame {f : FuncId} {xs : List AV} {h : H} {ls : List Nat} {d : Nat} {Ψ : AV → List (Nat × AObj) → Prop} (hls : ∀ l ∈ ls, l < h.next) (hlive : ∀ l ∈ ls, ∃ o, h.get l = some o ∧ o.cl ls.contains = true) (hx : AV.clL ls.contains xs = true) (hGc : ∀ g, (G g).cl (fun _ => false) = true)
    (hs : ∀ h0 : H, h0.next = h.next → (∀ l ∈ ls, h0.get l = h.get l) → Spec P U G f xs h0 fun v0 h1 => ∃ v v1 up, fz ls.contains h1 d v0 = some v1 ∧ Le v1 v ∧ up.map (·.1) = ls ∧ (∀ x ∈ up, fzO ls.contains h1 d (h1.get x.1) = some x.2) ∧ Ψ v up) :
    Spec P U G f xs h fun v h' => ∃ up, Ψ v up ∧ h' = h.sets up := by
  intro s w vs hsU hr hG hvs
  have mem : ∀ l, ls.contains l = true ↔ l ∈ ls := fun l => by simp
  obtain ⟨o1, o2⟩ := H.only_spec h ls ⟨h.next, .nil⟩
  let h0 := h.only ls
  have h0n : h0.next = h.next := o1
  have h0g : ∀ l, h0.get l = if l ∈ ls then h.get l else none := fun l => by rw [show h0.get l = _ from o2 l, H.get_nil]
  let s0 : St := ⟨fun l => if l ∈ ls then s.ρ l else none, s.F, s.U, h.next⟩
  have ρ0 : ∀ l x, s0.ρ l = some x → l ∈ ls ∧ s.ρ l = some x := fun l x hx => by
    simp only [s0] at hx
    split at hx
    · exact ⟨‹_›, hx⟩
    · cases hx
  have ρ1 : ∀ l x, ls.contains l = true → s.ρ l = some x → s0.ρ l = some x := fun l x hp hx => by
    simp only [s0, if_pos ((mem l).1 hp)]; exact hx
  have r0 : Rel s0 h0 w := by
    refine ⟨by rw [h0n]; exact Nat.le_refl _, fun l b d m hl => ?_, fun l b d m hl => hr.apart l b d m (ρ0 l _ hl).2, hr.Flt, fun l l' b d m d' m' h1 h2 g1 g2 => ?_, fun l b d m o hl ho => ?_⟩
    · rw [h0n]; exact hr.lt l b d m (ρ0 l _ hl).2
    · obtain ⟨k1, k2⟩ := ρ0 l _ h1
      obtain ⟨k3, k4⟩ := ρ0 l' _ h2
      rw [h0g, if_pos k1] at g1
      rw [h0g, if_pos k3] at g2
      exact hr.inj l l' b d m d' m' k2 k4 g1 g2
    · obtain ⟨k1, k2⟩ := ρ0 l _ hl
      rw [h0g, if_pos k1] at ho
      obtain ⟨o', q1, q2⟩ := hlive l k1
      rw [ho] at q1; injection q1 with q1; subst q1
      exact ObjR_cl (p := ls.contains) ρ1 (fun _ h => h) rfl q2 (hr.obj l b d m o k2 ho)
  have hG0 : GlobR s0 w G := ⟨fun g => VR_cl (s := s) (s' := s0) (p := fun _ => false) (fun l x hp => by cases hp) (fun _ h => h) (hGc g) (hG.val g), hG.whole⟩
  have hv0 : VRs s0 w xs vs.toList := VRs_cl (p := ls.contains) ρ1 (fun _ h => h) hx hvs
  refine (hs h0 h0n (fun l hl => by rw [h0g, if_pos hl]) s0 w vs hsU r0 hG0 hv0).mono ?_
  rintro r w' ⟨v0, h1, s1, ⟨v, v1, up, q1, q2, q3, q4, q5⟩, r1, st, hv⟩
  let s2 : St := ⟨s.ρ, fun b => s1.F b ∨ (w.heap.size ≤ b ∧ b < w'.heap.size ∧ ∃ l d m, s1.ρ l = some (b, d, m) ∧ ls.contains l = false ∧ (h1.get l).isSome = true), s.U, s.n⟩
  have upls : ∀ l, l ∈ ls → ∃ o, (l, o) ∈ up := fun l hl => by
    rw [← q3] at hl
    obtain ⟨x, hx, rfl⟩ := List.mem_map.1 hl
    exact ⟨x.2, hx⟩
  have live1 : ∀ l, l ∈ ls → (h1.get l).isSome = true := fun l hl => by
    obtain ⟨o, ho⟩ := upls l hl
    have := q4 _ ho
    simp only at this
    cases hx : h1.get l with
    | none => rw [hx] at this; simp [fzO] at this
    | some o => rfl
  have same : ∀ l, l ∈ ls → s1.ρ l = s.ρ l := fun l hl => by
    rw [st.low l (hls l hl)]
    simp only [s0, if_pos hl]
  have ρ2 : ∀ l x, ls.contains l = true → s1.ρ l = some x → s2.ρ l = some x := fun l x hp hx => by
    rw [same l ((mem l).1 hp)] at hx; exact hx
  have F2 : ∀ b, s1.F b → s2.F b := fun b hb => .inl hb
  have N2 : ∀ l b d m, s1.ρ l = some (b, d, m) → ls.contains l = false → (h1.get l).isSome = true → s2.F b := by
    intro l b d m hl hp hlv
    refine .inr ⟨?_, (r1.lt l b d m hl).2, l, d, m, hl, hp, hlv⟩
    rcases st.ext.back l b d m hl with ⟨l', d', m', h'⟩ | h'
    · exfalso
      obtain ⟨k1, k2⟩ := ρ0 l' _ h'
      have := r1.inj l l' b d m d' m' hl (by rw [same l' k1]; exact k2) hlv (live1 l' k1)
      subst this
      rw [(mem l).2 k1] at hp; cases hp
    · exact h'
  have U2 : s2.U = s1.U := st.ext.U.symm
  have kp : Keep s w w' := ⟨st.keep.os, st.keep.tape, st.keep.output, st.keep.size, fun b hb hn => st.keep.block b hb fun l d m hl => hn l d m (ρ0 l _ hl).2⟩
  have stp : Step s w s2 w' := by
    refine ⟨⟨⟨fun _ _ h => h, fun b hb => .inl (st.ext.F b hb), rfl, fun l b d m h => .inl ⟨l, d, m, h⟩, fun b hb => ?_⟩, kp⟩, Nat.le_refl _, fun _ _ => rfl⟩
    rcases hb with hb | ⟨hb, _⟩
    · exact st.ext.Fback b hb
    · exact .inr hb
  refine ⟨v, h.sets up, s2, ⟨up, q5, rfl⟩, ?_, stp, q2 _ _ _ (fz_sound r1 ρ2 F2 N2 q1 hv)⟩
  have live0 : ∀ l, l ∈ ls → (h.get l).isSome = true := fun l hl => by
    obtain ⟨o, h1, _⟩ := hlive l hl; rw [h1]; rfl
  have liveUp : ∀ l, ((h.sets up).get l).isSome = true → (h.get l).isSome = true := fun l hl => by
    rcases H.get_sets up h l with ⟨_, g⟩ | ⟨o, g, _⟩
    · rw [g] at hl; exact hl
    · refine live0 l ?_
      rw [← q3]; exact List.mem_map.2 ⟨_, g, rfl⟩
  refine ⟨by rw [H.sets_next]; exact hr.low, fun l b d m hl => ?_, fun l b d m hl hF => ?_, fun b hb => ?_, fun l l' b d m d' m' h1 h2 g1 g2 => hr.inj l l' b d m d' m' h1 h2 (liveUp l g1) (liveUp l' g2), fun l b d m o hl ho => ?_⟩
  · rw [H.sets_next]
    exact ⟨(hr.lt l b d m hl).1, Nat.lt_of_lt_of_le (hr.lt l b d m hl).2 kp.size⟩
  · have hlt := (hr.lt l b d m hl).2
    rcases hF with hF | ⟨hF, _⟩
    · rcases st.ext.Fback b hF with h' | h'
      · exact hr.apart l b d m hl h'
      · omega
    · omega
  · rcases hb with hb | ⟨_, hb, _⟩
    · exact r1.Flt b hb
    · exact hb
  · rcases H.get_sets up h l with ⟨g1, g2⟩ | ⟨o', g1, g2⟩
    · rw [g2] at ho
      have hnl : l ∉ ls := by rw [← q3]; exact g1
      refine ObjR.mono' stp.toMono hr.apart (hr.obj l b d m o hl ho) (st.keep.block b (hr.lt l b d m hl).2 fun l0 d0 m0 h0' => ?_)
      obtain ⟨k1, k2⟩ := ρ0 l0 _ h0'
      have := hr.inj l l0 b d m d0 m0 hl k2 (by rw [ho]; rfl) (live0 l0 k1)
      subst this
      exact hnl k1
    · rw [ho] at g2
      injection g2 with g2; subst g2
      have hl' : l ∈ ls := by rw [← q3]; exact List.mem_map.2 ⟨_, g1, rfl⟩
      have h3 := q4 _ g1
      simp only at h3
      cases hx : h1.get l with
      | none => rw [hx] at h3; simp [fzO] at h3
      | some o1 =>
        rw [hx] at h3
        have hρ' : s1.ρ l = some (b, d, m) := by rw [same l hl']; exact hl
        exact fzO_sound r1 ρ2 F2 N2 U2 h3 (r1.obj l b d m o1 hρ' hx)
def Pure (P : Program) (U : List (TypeId × TypeId)) (G : Nat → AV) (f : FuncId) (xs : List AV) (Q : AV → Prop) : Prop := ∀ h, Spec P U G f xs h fun v h' => Q v ∧ h' = h
theorem Pure.of {f : FuncId} {xs : List AV} (d : Nat) {Q : AV → Prop} (hx : AV.clL (fun _ => false) xs = true) (hGc : ∀ g, (G g).cl (fun _ => false) = true)
    (hs : ∀ h0 : H, Spec P U G f xs h0 fun v0 h1 => ∃ v v1, fz (fun _ => false) h1 d v0 = some v1 ∧ Le v1 v ∧ Q v) : Pure P U G f xs Q := by
  intro h
  have hp : ([] : List Nat).contains = fun _ => false := by funext l; simp
  refine (Spec.frame (ls := []) (d := d) (Ψ := fun v up => Q v ∧ up = []) (by simp) (by simp) (by rw [hp]; exact hx) hGc fun h0 _ _ => (hs h0).mono fun v0 h1 ⟨v, v1, k1, k2, k3⟩ => ⟨v, v1, [], by rw [hp]; exact k1, k2, rfl, by simp, k3, rfl⟩).mono ?_
  rintro v h' ⟨up, ⟨k1, rfl⟩, rfl⟩
  exact ⟨k1, rfl⟩
theorem Spec.loc {f : FuncId} {xs : List AV} {h : H} {l : Nat} {o : AObj} (d : Nat) {Q : AV → AObj → Prop} (hl : l < h.next) (hg : h.get l = some o) (ho : o.cl (fun k => k == l) = true) (hx : AV.clL (fun k => k == l) xs = true) (hGc : ∀ g, (G g).cl (fun _ => false) = true)
    (hs : ∀ h0 : H, h0.next = h.next → h0.get l = some o → Spec P U G f xs h0 fun v0 h1 => ∃ v v1 o', fz (fun k => k == l) h1 d v0 = some v1 ∧ Le v1 v ∧ fzO (fun k => k == l) h1 d (h1.get l) = some o' ∧ Q v o') :
    Spec P U G f xs h fun v h' => ∃ o', Q v o' ∧ h' = h.set l o' := by
  have hp : [l].contains = fun k => k == l := by funext k; simp [List.contains_cons, Bool.or_false]; rfl
  refine (Spec.frame (ls := [l]) (d := d) (Ψ := fun v up => ∃ o', Q v o' ∧ up = [(l, o')]) (by simpa using hl) (by simp only [List.mem_singleton, forall_eq]; exact ⟨o, hg, by rw [hp]; exact ho⟩) (by rw [hp]; exact hx) hGc
    fun h0 e1 e2 => (hs h0 e1 (by rw [e2 l (by simp)]; exact hg)).mono fun v0 h1 ⟨v, v1, o', k1, k2, k3, k4⟩ => ⟨v, v1, [(l, o')], by rw [hp]; exact k1, k2, rfl, by simp only [List.mem_singleton, forall_eq]; rw [hp]; exact k3, o', k4, rfl⟩).mono ?_
  rintro v h' ⟨up, ⟨o', k1, rfl⟩, rfl⟩
  exact ⟨o', k1, rfl⟩
end
end Go.Eng
namespace Go.Eng
theorem nr {α : Sort _} {a b : α} (h : a = b) : a = b := h
inductive Fr where
  | seq (b : S)
  | blk (id : Nat)
  | lp (Q : Env → H → Prop)
section
variable (P : Program) (U : List (TypeId × TypeId)) (G : Nat → AV) (rs : List RV) (Ψ : AV → H → Prop)
def fin (r : Option AV) (h : H) : Prop := match r with
  | some v => Ψ v h
  | none => False
def Kt : List Fr → Exit → Env → H → Prop
  | [], x, e, h => match x with
    | .normal | .ret => fin Ψ (resE U G e h rs) h
    | _ => False
  | .seq b :: k, x, e, h => match x with
    | .normal => W (Spec P U G) U G b e h (Kt k)
    | x => Kt k x e h
  | .blk id :: k, x, e, h => match x with
    | .exit i => if i = id then Kt k .normal e h else Kt k (.exit i) e h
    | x => Kt k x e h
  | .lp Q :: k, x, e, h => match x with
    | .normal => Q e h
    | x => Kt k x e h
def Go (c : S) (e : Env) (h : H) (k : List Fr) : Prop := W (Spec P U G) U G c e h (Kt P U G rs Ψ k)
def Br (b : Bool) (c d : S) (e : Env) (h : H) (k : List Fr) : Prop := if b = true then Go P U G rs Ψ c e h k else Go P U G rs Ψ d e h k
def BrV (v : AV) (c d : S) (e : Env) (h : H) (k : List Fr) : Prop := match v with
  | .bool b => Br P U G rs Ψ b c d e h k
  | _ => False
def Rg (l : List O) (e : Env) (h : H) (lv : List Nat) (k : List Fr) : Prop := rP (Spec P U G) U G l e h fun e h => Kt P U G rs Ψ k .normal (e.keep lv) h
def bQ (r : Option AV) (d : Option Nat) (l : List O) (e : Env) (h : H) (lv : List Nat) (k : List Fr) : Prop := match r with
  | some v => Rg P U G rs Ψ l (e.put d v) h lv k
  | none => False
def bE (r : Option (AV × H)) (d : Option Nat) (l : List O) (e : Env) (lv : List Nat) (k : List Fr) : Prop := match r with
  | some (v, h) => Rg P U G rs Ψ l (e.put d v) h lv k
  | none => False
def bC (f : FuncId) (xs : List AV) (d : Option Nat) (l : List O) (e : Env) (h : H) (lv : List Nat) (k : List Fr) : Prop := Spec P U G f xs h fun v h => Rg P U G rs Ψ l (e.put d v) h lv k
def bV (x : AV) (xs : List AV) (d : Option Nat) (l : List O) (e : Env) (h : H) (lv : List Nat) (k : List Fr) : Prop := match x with
  | .fn f a b => bC P U G rs Ψ f (a ++ xs ++ b) d l e h lv k
  | _ => False
def bG (v : AV) (b : Bool) (i : I) (d : Option Nat) (l : List O) (e : Env) (h : H) (lv : List Nat) (k : List Fr) : Prop := match v with
  | .bool c => if c = b then Rg P U G rs Ψ (⟨d, i, none⟩ :: l) e h lv k else Rg P U G rs Ψ l (e.put d (.tup [])) h lv k
  | .tup _ => Rg P U G rs Ψ l (e.put d (.tup [])) h lv k
  | _ => False
def Rd (B : Nat) (l : List (Nat × O × Nat)) (ps : List Pd) (e : Env) (h : H) (lv : List Nat) (k : List Fr) : Prop := okAll U G h 0 ps → rD (Spec P U G) U G B l ps e h fun e h => Kt P U G rs Ψ k .normal (e.keep lv) h
def dQ (B : Nat) (r : Option AV) (d : Option Nat) (l : List (Nat × O × Nat)) (ps : List Pd) (e : Env) (h : H) (lv : List Nat) (k : List Fr) : Prop := match r with
  | some v => Rd P U G rs Ψ B l ps (e.put d v) h lv k
  | none => ¬ okAll U G h 0 ps
def dR (B : Nat) (r : Option AV) (j : Nat) (o : O) (l : List (Nat × O × Nat)) (ps : List Pd) (e : Env) (h : H) (lv : List Nat) (k : List Fr) : Prop := match r with
  | some v => Rd P U G rs Ψ B l (⟨j, o, e, v⟩ :: ps) (e.put o.d v) h lv k
  | none => ¬ okAll U G h 0 ps
def dE (B : Nat) (h0 : H) (r : Option (AV × H)) (m : Nat) (d : Option Nat) (l : List (Nat × O × Nat)) (ps : List Pd) (e : Env) (lv : List Nat) (k : List Fr) : Prop := okAll U G h0 0 ps → match r with
  | some (v, h) => okAll U G h m ps ∧ rD (Spec P U G) U G B l (still m ps) (e.put d v) h fun e h => Kt P U G rs Ψ k .normal (e.keep lv) h
  | none => False
def dC (B : Nat) (f : FuncId) (xs : List AV) (m : Nat) (d : Option Nat) (l : List (Nat × O × Nat)) (ps : List Pd) (e : Env) (h : H) (lv : List Nat) (k : List Fr) : Prop := okAll U G h 0 ps → Spec P U G f xs h fun v h => okAll U G h m ps ∧ rD (Spec P U G) U G B l (still m ps) (e.put d v) h fun e h => Kt P U G rs Ψ k .normal (e.keep lv) h
def dV (B : Nat) (x : AV) (xs : List AV) (m : Nat) (d : Option Nat) (l : List (Nat × O × Nat)) (ps : List Pd) (e : Env) (h : H) (lv : List Nat) (k : List Fr) : Prop := match x with
  | .fn f a b => dC P U G rs Ψ B f (a ++ xs ++ b) m d l ps e h lv k
  | _ => ¬ okAll U G h 0 ps
def dN (B : Nat) (g : Option AObj) (z : List AV) (t : TypeId) (j : Nat) (d : Option Nat) (l : List (Nat × O × Nat)) (ps : List Pd) (e : Env) (h : H) (lv : List Nat) (k : List Fr) : Prop := okAll U G h 0 ps → g = some (.cells z t (some 0)) ∧ rD (Spec P U G) U G B l (⟨j, ⟨d, .new z t, none⟩, e, .ptr (B + j) 0⟩ :: ps) (e.put d (.ptr (B + j) 0)) h fun e h => Kt P U G rs Ψ k .normal (e.keep lv) h
def dG (B : Nat) (v : AV) (b : Bool) (j : Nat) (i : I) (m : Nat) (d : Option Nat) (l : List (Nat × O × Nat)) (ps : List Pd) (e : Env) (h : H) (lv : List Nat) (k : List Fr) : Prop := match v with
  | .bool c => if c = b then Rd P U G rs Ψ B ((j, ⟨d, i, none⟩, m) :: l) ps e h lv k else Rd P U G rs Ψ B l (still m ps) (e.put d (.tup [])) h lv k
  | .tup _ => Rd P U G rs Ψ B l (still m ps) (e.put d (.tup [])) h lv k
  | _ => False
def qG (v : AV) (b : Bool) (r : Option AV) : Option AV := match v with
  | .bool c => if c = b then r else some (.tup [])
  | .tup _ => some (.tup [])
  | _ => none
end
section
variable {P : Program} {U : List (TypeId × TypeId)} {G : Nat → AV} {rs : List RV} {Ψ : AV → H → Prop}
theorem okAll_weaken {h : H} {m : Nat} : ∀ {ps : List Pd}, okAll U G h m ps → okAll U G h 0 (still m ps)
  | [], _ => trivial
  | p :: ps, ⟨h1, h2⟩ => by
    simp only [still]
    split
    · exact okAll_weaken h2
    · rename_i hm
      exact ⟨.inr (h1.resolve_left (by simpa using hm)), okAll_weaken h2⟩
theorem okAll_zero {h : H} {m : Nat} : ∀ {ps : List Pd}, okAll U G h 0 ps → okAll U G h m ps
  | [], _ => trivial
  | p :: ps, ⟨h1, h2⟩ => ⟨.inr (h1.resolve_left (by simp)), okAll_zero h2⟩
@[go_sem] theorem fin_some (v : AV) (h : H) : fin Ψ (some v) h = Ψ v h := nr rfl
@[go_sem] theorem Kt_ret0 (e : Env) (h : H) : Kt P U G rs Ψ [] .ret e h = fin Ψ (resE U G e h rs) h := nr rfl
@[go_sem] theorem Kt_nor0 (e : Env) (h : H) : Kt P U G rs Ψ [] .normal e h = fin Ψ (resE U G e h rs) h := nr rfl
@[go_sem] theorem Kt_seq (b : S) (k : List Fr) (e : Env) (h : H) : Kt P U G rs Ψ (.seq b :: k) .normal e h = Go P U G rs Ψ b e h k := nr rfl
@[go_sem] theorem Kt_seq_ret (b : S) (k : List Fr) (e : Env) (h : H) : Kt P U G rs Ψ (.seq b :: k) .ret e h = Kt P U G rs Ψ k .ret e h := nr rfl
@[go_sem] theorem Kt_seq_exit (b : S) (k : List Fr) (i : Nat) (e : Env) (h : H) : Kt P U G rs Ψ (.seq b :: k) (.exit i) e h = Kt P U G rs Ψ k (.exit i) e h := nr rfl
@[go_sem] theorem Kt_blk (id : Nat) (k : List Fr) (e : Env) (h : H) : Kt P U G rs Ψ (.blk id :: k) .normal e h = Kt P U G rs Ψ k .normal e h := nr rfl
@[go_sem] theorem Kt_blk_ret (id : Nat) (k : List Fr) (e : Env) (h : H) : Kt P U G rs Ψ (.blk id :: k) .ret e h = Kt P U G rs Ψ k .ret e h := nr rfl
@[go_sem] theorem Kt_blk_exit (id : Nat) (k : List Fr) (i : Nat) (e : Env) (h : H) : Kt P U G rs Ψ (.blk id :: k) (.exit i) e h = if i = id then Kt P U G rs Ψ k .normal e h else Kt P U G rs Ψ k (.exit i) e h := nr rfl
@[go_sem] theorem Kt_lp (Q : Env → H → Prop) (k : List Fr) (e : Env) (h : H) : Kt P U G rs Ψ (.lp Q :: k) .normal e h = Q e h := nr rfl
@[go_sem] theorem Kt_lp_ret (Q : Env → H → Prop) (k : List Fr) (e : Env) (h : H) : Kt P U G rs Ψ (.lp Q :: k) .ret e h = Kt P U G rs Ψ k .ret e h := nr rfl
@[go_sem] theorem Kt_lp_exit (Q : Env → H → Prop) (k : List Fr) (i : Nat) (e : Env) (h : H) : Kt P U G rs Ψ (.lp Q :: k) (.exit i) e h = Kt P U G rs Ψ k (.exit i) e h := nr rfl
variable {e : Env} {h : H} {lv : List Nat} {k : List Fr} {l : List O}
@[go_sem] theorem Go_skip : Go P U G rs Ψ .skip e h k = Kt P U G rs Ψ k .normal e h := nr rfl
@[go_sem] theorem Go_ret : Go P U G rs Ψ .ret e h k = Kt P U G rs Ψ k .ret e h := nr rfl
@[go_sem] theorem Go_exit (i : Nat) : Go P U G rs Ψ (.exit i) e h k = Kt P U G rs Ψ k (.exit i) e h := nr rfl
@[go_sem] theorem Go_seq (a b : S) : Go P U G rs Ψ (.seq a b) e h k = Go P U G rs Ψ a e h (.seq b :: k) := nr rfl
@[go_sem] theorem Go_block (id : Nat) (b : S) : Go P U G rs Ψ (.block id b) e h k = Go P U G rs Ψ b e h (.blk id :: k) := nr rfl
@[go_sem] theorem Go_reg (ops : List O) (lv : List Nat) : Go P U G rs Ψ (.reg ops lv) e h k = Rg P U G rs Ψ ops e h lv k := nr rfl
@[go_sem] theorem Go_cond (c : X) (a b : S) : Go P U G rs Ψ (.cond c a b) e h k = BrV P U G rs Ψ (c.ev G e) a b e h k := by
  unfold Go BrV
  simp only [W]
  cases c.ev G e with
  | bool t => cases t <;> rfl
  | _ => rfl
@[go_sem] theorem BrV_bool (b : Bool) (c d : S) : BrV P U G rs Ψ (.bool b) c d e h k = Br P U G rs Ψ b c d e h k := nr rfl
@[go_sem] theorem Br_true (c d : S) : Br P U G rs Ψ true c d e h k = Go P U G rs Ψ c e h k := nr rfl
@[go_sem] theorem Br_false (c d : S) : Br P U G rs Ψ false c d e h k = Go P U G rs Ψ d e h k := by simp [Br]
theorem Br_bool {b : Bool} {c d : S} (h1 : b = true → Go P U G rs Ψ c e h k) (h2 : b = false → Go P U G rs Ψ d e h k) : Br P U G rs Ψ b c d e h k := by
  cases b
  · exact h2 rfl
  · exact h1 rfl
theorem Br_dec {p : Prop} {dp : Decidable p} {c d : S} (h1 : p → Go P U G rs Ψ c e h k) (h2 : ¬ p → Go P U G rs Ψ d e h k) : Br P U G rs Ψ (decide p) c d e h k :=
  Br_bool (fun hp => h1 (of_decide_eq_true hp)) (fun hp => h2 (of_decide_eq_false hp))
theorem Br_not {b : Bool} {c d : S} (h1 : Br P U G rs Ψ b d c e h k) : Br P U G rs Ψ (!b) c d e h k := by
  cases b
  · simpa [Br] using h1
  · simpa [Br] using h1
theorem Go_loop {b : S} (I : Nat → Env → H → Prop) {n : Nat} (h0 : I n e h)
    (hs : ∀ n e h, I n e h → ∀ Q : Env → H → Prop, (∀ m e h, m < n → I m e h → Q e h) → Go P U G rs Ψ b e h (.lp Q :: k)) : Go P U G rs Ψ (.loop b) e h k := by
  unfold Go
  simp only [W]
  refine ⟨n + 1, ?_⟩
  have : ∀ m n e h, n < m → I n e h → (Nat.rec (motive := fun _ => Env → H → Prop) (fun _ _ => False) (fun _ L e h => W (Spec P U G) U G b e h fun x e h => match x with
    | .normal => L e h
    | x => Kt P U G rs Ψ k x e h) m : Env → H → Prop) e h := by
    intro m
    induction m with
    | zero => intro n e h hn; omega
    | succ m ih =>
      intro n e h hn hI
      exact hs n e h hI _ fun j e h hj hI => ih j e h (by omega) hI
  exact this (n + 1) n e h (by omega) h0
@[go_sem] theorem Rg_nil : Rg P U G rs Ψ [] e h lv k = Kt P U G rs Ψ k .normal (e.keep lv) h := nr rfl
@[go_sem] theorem bQ_some (v : AV) (d : Option Nat) : bQ P U G rs Ψ (some v) d l e h lv k = Rg P U G rs Ψ l (e.put d v) h lv k := nr rfl
@[go_sem] theorem bE_some (v : AV) (h : H) (d : Option Nat) : bE P U G rs Ψ (some (v, h)) d l e lv k = Rg P U G rs Ψ l (e.put d v) h lv k := nr rfl
@[go_sem] theorem bV_fn (f : FuncId) (a b xs : List AV) (d : Option Nat) : bV P U G rs Ψ (.fn f a b) xs d l e h lv k = bC P U G rs Ψ f (a ++ xs ++ b) d l e h lv k := nr rfl
@[go_sem] theorem bG_tt (i : I) (d : Option Nat) : bG P U G rs Ψ (.bool true) true i d l e h lv k = Rg P U G rs Ψ (⟨d, i, none⟩ :: l) e h lv k := nr rfl
@[go_sem] theorem bG_ff (i : I) (d : Option Nat) : bG P U G rs Ψ (.bool false) false i d l e h lv k = Rg P U G rs Ψ (⟨d, i, none⟩ :: l) e h lv k := nr rfl
@[go_sem] theorem bG_tf (i : I) (d : Option Nat) : bG P U G rs Ψ (.bool true) false i d l e h lv k = Rg P U G rs Ψ l (e.put d (.tup [])) h lv k := by simp [bG]
@[go_sem] theorem bG_ft (i : I) (d : Option Nat) : bG P U G rs Ψ (.bool false) true i d l e h lv k = Rg P U G rs Ψ l (e.put d (.tup [])) h lv k := by simp [bG]
@[go_sem] theorem bG_tup (vs : List AV) (b : Bool) (i : I) (d : Option Nat) : bG P U G rs Ψ (.tup vs) b i d l e h lv k = Rg P U G rs Ψ l (e.put d (.tup [])) h lv k := nr rfl
theorem bC_spec {f : FuncId} {xs : List AV} {d : Option Nat} {Q : AV → H → Prop} (hs : Spec P U G f xs h Q) (hk : ∀ v h, Q v h → Rg P U G rs Ψ l (e.put d v) h lv k) : bC P U G rs Ψ f xs d l e h lv k := hs.mono hk
theorem bC_pure {f : FuncId} {xs : List AV} {d : Option Nat} {Q : AV → Prop} (hs : Pure P U G f xs Q) (hk : ∀ v, Q v → Rg P U G rs Ψ l (e.put d v) h lv k) : bC P U G rs Ψ f xs d l e h lv k := (hs h).mono fun v h' ⟨h1, h2⟩ => by rw [h2]; exact hk v h1
@[go_sem] theorem Rg_call (d : Option Nat) (f : FuncId) (xs : List X) : Rg P U G rs Ψ (⟨d, .call f xs, none⟩ :: l) e h lv k = bC P U G rs Ψ f (evs G e xs) d l e h lv k := nr rfl
@[go_sem] theorem Rg_callv (d : Option Nat) (x : X) (xs : List X) : Rg P U G rs Ψ (⟨d, .callv x xs, none⟩ :: l) e h lv k = bV P U G rs Ψ (x.ev G e) (evs G e xs) d l e h lv k := by
  unfold Rg bV
  simp only [rP, I.acts, I.news, Bool.or_false, if_true, act, gd, callOf]
  cases x.ev G e <;> rfl
@[go_sem] theorem Rg_new (d : Option Nat) (z : List AV) (t : TypeId) : Rg P U G rs Ψ (⟨d, .new z t, none⟩ :: l) e h lv k = bE P U G rs Ψ (evE U G (.new z t) e h) d l e lv k := nr rfl
theorem Rg_guard (i : I) (d : Option Nat) (g : Nat) (b : Bool) : Rg P U G rs Ψ (⟨d, i, some (g, b)⟩ :: l) e h lv k = bG P U G rs Ψ (e.get g) b i d l e h lv k := by
  have hq : ∀ o : O, o.i = i → o.d = d → gd o e = some true → (Rg P U G rs Ψ (o :: l) e h lv k = Rg P U G rs Ψ (⟨d, i, none⟩ :: l) e h lv k) := by
    rintro ⟨d', i', g'⟩ rfl rfl ho
    unfold Rg
    simp only [rP, act, qv, ho]
    rfl
  have hf : ∀ o : O, o.i = i → o.d = d → gd o e = some false → (Rg P U G rs Ψ (o :: l) e h lv k = Rg P U G rs Ψ l (e.put d (.tup [])) h lv k) := by
    rintro ⟨d', i', g'⟩ rfl rfl ho
    unfold Rg
    simp only [rP, act, qv, ho]
    split <;> rfl
  have hn : ∀ o : O, o.i = i → o.d = d → gd o e = none → (Rg P U G rs Ψ (o :: l) e h lv k = False) := by
    rintro ⟨d', i', g'⟩ rfl rfl ho
    unfold Rg
    simp only [rP, act, qv, ho]
    split <;> rfl
  unfold bG
  cases hv : e.get g with
  | bool c =>
    by_cases hc : c = b
    · simp only [hc, if_true]
      exact hq _ rfl rfl (by simp [gd, hv, hc])
    · simp only [hc, if_false]
      exact hf _ rfl rfl (by simp [gd, hv, hc])
  | tup vs => exact hf _ rfl rfl (by simp [gd, hv])
  | _ => exact hn _ rfl rfl (by simp [gd, hv])
@[go_sem] theorem Rg_y (i : I) (d g : Nat) : Rg P U G rs Ψ (.y d i g :: l) e h lv k = bG P U G rs Ψ (e.get g) true i (some d) l e h lv k := Rg_guard i _ g true
@[go_sem] theorem Rg_z (i : I) (d g : Nat) : Rg P U G rs Ψ (.z d i g :: l) e h lv k = bG P U G rs Ψ (e.get g) false i (some d) l e h lv k := Rg_guard i _ g false
@[go_sem] theorem Rg_g (i : I) (d : Option Nat) (g : Nat) (b : Bool) : Rg P U G rs Ψ (⟨d, i, some (g, b)⟩ :: l) e h lv k = bG P U G rs Ψ (e.get g) b i d l e h lv k := Rg_guard i d g b
@[go_sem] theorem Rg_mv (d : Option Nat) (x : X) : Rg P U G rs Ψ (⟨d, (.mv x), none⟩ :: l) e h lv k = bQ P U G rs Ψ (evQ U G (.mv x) e h) d l e h lv k := nr rfl
@[go_sem] theorem Rg_pick (d : Option Nat) (a b c : X) : Rg P U G rs Ψ (⟨d, (.pick a b c), none⟩ :: l) e h lv k = bQ P U G rs Ψ (evQ U G (.pick a b c) e h) d l e h lv k := nr rfl
@[go_sem] theorem Rg_fad (d : Option Nat) (o : Nat) (x : X) : Rg P U G rs Ψ (⟨d, (.fad o x), none⟩ :: l) e h lv k = bQ P U G rs Ψ (evQ U G (.fad o x) e h) d l e h lv k := nr rfl
@[go_sem] theorem Rg_fld (d : Option Nat) (o n : Nat) (ag : Bool) (x : X) : Rg P U G rs Ψ (⟨d, (.fld o n ag x), none⟩ :: l) e h lv k = bQ P U G rs Ψ (evQ U G (.fld o n ag x) e h) d l e h lv k := nr rfl
@[go_sem] theorem Rg_iad (d : Option Nat) (n : Nat) (x i : X) : Rg P U G rs Ψ (⟨d, (.iad n x i), none⟩ :: l) e h lv k = bQ P U G rs Ψ (evQ U G (.iad n x i) e h) d l e h lv k := nr rfl
@[go_sem] theorem Rg_iadA (d : Option Nat) (n m : Nat) (x i : X) : Rg P U G rs Ψ (⟨d, (.iadA n m x i), none⟩ :: l) e h lv k = bQ P U G rs Ψ (evQ U G (.iadA n m x i) e h) d l e h lv k := nr rfl
@[go_sem] theorem Rg_ixS (d : Option Nat) (x i : X) : Rg P U G rs Ψ (⟨d, (.ixS x i), none⟩ :: l) e h lv k = bQ P U G rs Ψ (evQ U G (.ixS x i) e h) d l e h lv k := nr rfl
@[go_sem] theorem Rg_ixA (d : Option Nat) (n m : Nat) (ag : Bool) (x i : X) : Rg P U G rs Ψ (⟨d, (.ixA n m ag x i), none⟩ :: l) e h lv k = bQ P U G rs Ψ (evQ U G (.ixA n m ag x i) e h) d l e h lv k := nr rfl
@[go_sem] theorem Rg_ext (d : Option Nat) (x : X) (i : Nat) : Rg P U G rs Ψ (⟨d, (.ext x i), none⟩ :: l) e h lv k = bQ P U G rs Ψ (evQ U G (.ext x i) e h) d l e h lv k := nr rfl
@[go_sem] theorem Rg_sS (d : Option Nat) (x : X) (a b : Option X) : Rg P U G rs Ψ (⟨d, (.sS x a b), none⟩ :: l) e h lv k = bQ P U G rs Ψ (evQ U G (.sS x a b) e h) d l e h lv k := nr rfl
@[go_sem] theorem Rg_sL (d : Option Nat) (n : Nat) (x : X) (a b c : Option X) : Rg P U G rs Ψ (⟨d, (.sL n x a b c), none⟩ :: l) e h lv k = bQ P U G rs Ψ (evQ U G (.sL n x a b c) e h) d l e h lv k := nr rfl
@[go_sem] theorem Rg_sA (d : Option Nat) (n m : Nat) (x : X) (a b : Option X) : Rg P U G rs Ψ (⟨d, (.sA n m x a b), none⟩ :: l) e h lv k = bQ P U G rs Ψ (evQ U G (.sA n m x a b) e h) d l e h lv k := nr rfl
@[go_sem] theorem Rg_nck (d : Option Nat) (x : X) : Rg P U G rs Ψ (⟨d, (.nck x), none⟩ :: l) e h lv k = bQ P U G rs Ψ (evQ U G (.nck x) e h) d l e h lv k := nr rfl
@[go_sem] theorem Rg_bld (d : Option Nat) (z : List AV) (qs : List (Nat × Nat × X)) : Rg P U G rs Ψ (⟨d, (.bld z qs), none⟩ :: l) e h lv k = bQ P U G rs Ψ (evQ U G (.bld z qs) e h) d l e h lv k := nr rfl
@[go_sem] theorem Rg_bin (d : Option Nat) (op : BinOp) (c : Ck) (x y : X) : Rg P U G rs Ψ (⟨d, (.bin op c x y), none⟩ :: l) e h lv k = bQ P U G rs Ψ (evQ U G (.bin op c x y) e h) d l e h lv k := nr rfl
@[go_sem] theorem Rg_un (d : Option Nat) (op : UnOp) (x : X) : Rg P U G rs Ψ (⟨d, (.un op x), none⟩ :: l) e h lv k = bQ P U G rs Ψ (evQ U G (.un op x) e h) d l e h lv k := nr rfl
@[go_sem] theorem Rg_cvI (d : Option Nat) (q : IntKind) (x : X) : Rg P U G rs Ψ (⟨d, (.cvI q x), none⟩ :: l) e h lv k = bQ P U G rs Ψ (evQ U G (.cvI q x) e h) d l e h lv k := nr rfl
@[go_sem] theorem Rg_cvR (d : Option Nat) (x : X) : Rg P U G rs Ψ (⟨d, (.cvR x), none⟩ :: l) e h lv k = bQ P U G rs Ψ (evQ U G (.cvR x) e h) d l e h lv k := nr rfl
@[go_sem] theorem Rg_cvB (d : Option Nat) (x : X) : Rg P U G rs Ψ (⟨d, (.cvB x), none⟩ :: l) e h lv k = bQ P U G rs Ψ (evQ U G (.cvB x) e h) d l e h lv k := nr rfl
@[go_sem] theorem Rg_cvP (d : Option Nat) (x : X) : Rg P U G rs Ψ (⟨d, (.cvP x), none⟩ :: l) e h lv k = bQ P U G rs Ψ (evQ U G (.cvP x) e h) d l e h lv k := nr rfl
@[go_sem] theorem Rg_cvQ (d : Option Nat) (u : TypeId) (x : X) : Rg P U G rs Ψ (⟨d, (.cvQ u x), none⟩ :: l) e h lv k = bQ P U G rs Ψ (evQ U G (.cvQ u x) e h) d l e h lv k := nr rfl
@[go_sem] theorem Rg_mkI (d : Option Nat) (t : TypeId) (x : X) : Rg P U G rs Ψ (⟨d, (.mkI t x), none⟩ :: l) e h lv k = bQ P U G rs Ψ (evQ U G (.mkI t x) e h) d l e h lv k := nr rfl
@[go_sem] theorem Rg_mkF (d : Option Nat) (f : FuncId) (a b : List X) : Rg P U G rs Ψ (⟨d, (.mkF f a b), none⟩ :: l) e h lv k = bQ P U G rs Ψ (evQ U G (.mkF f a b) e h) d l e h lv k := nr rfl
@[go_sem] theorem Rg_len (d : Option Nat) (n : Nat) (x : X) : Rg P U G rs Ψ (⟨d, (.len n x), none⟩ :: l) e h lv k = bQ P U G rs Ψ (evQ U G (.len n x) e h) d l e h lv k := nr rfl
@[go_sem] theorem Rg_mn (d : Option Nat) (xs : List X) : Rg P U G rs Ψ (⟨d, (.mn xs), none⟩ :: l) e h lv k = bQ P U G rs Ψ (evQ U G (.mn xs) e h) d l e h lv k := nr rfl
@[go_sem] theorem Rg_mx (d : Option Nat) (xs : List X) : Rg P U G rs Ψ (⟨d, (.mx xs), none⟩ :: l) e h lv k = bQ P U G rs Ψ (evQ U G (.mx xs) e h) d l e h lv k := nr rfl
@[go_sem] theorem Rg_ld (d : Option Nat) (n : Nat) (ag : Bool) (x : X) : Rg P U G rs Ψ (⟨d, (.ld n ag x), none⟩ :: l) e h lv k = bQ P U G rs Ψ (evQ U G (.ld n ag x) e h) d l e h lv k := nr rfl
@[go_sem] theorem Rg_lk (d : Option Nat) (q : KT) (z : AV) (ok : Bool) (x y : X) : Rg P U G rs Ψ (⟨d, (.lk q z ok x y), none⟩ :: l) e h lv k = bQ P U G rs Ψ (evQ U G (.lk q z ok x y) e h) d l e h lv k := nr rfl
@[go_sem] theorem Rg_sd (d : Option Nat) (x : X) : Rg P U G rs Ψ (⟨d, (.sd x), none⟩ :: l) e h lv k = bQ P U G rs Ψ (evQ U G (.sd x) e h) d l e h lv k := nr rfl
@[go_sem] theorem Rg_st (d : Option Nat) (n : Nat) (x y : X) : Rg P U G rs Ψ (⟨d, (.st n x y), none⟩ :: l) e h lv k = bE P U G rs Ψ (evE U G (.st n x y) e h) d l e lv k := nr rfl
@[go_sem] theorem Rg_box (d : Option Nat) (n : Nat) (t : TypeId) (x : X) : Rg P U G rs Ψ (⟨d, (.box n t x), none⟩ :: l) e h lv k = bE P U G rs Ψ (evE U G (.box n t x) e h) d l e lv k := nr rfl
@[go_sem] theorem Rg_mkS (d : Option Nat) (n b : Nat) (t : TypeId) (z : List AV) (x y : X) : Rg P U G rs Ψ (⟨d, (.mkS n b t z x y), none⟩ :: l) e h lv k = bE P U G rs Ψ (evE U G (.mkS n b t z x y) e h) d l e lv k := nr rfl
@[go_sem] theorem Rg_bsl (d : Option Nat) (n : Nat) (t : TypeId) (z : List AV) (c : Nat) (qs : List (Nat × X)) : Rg P U G rs Ψ (⟨d, (.bsl n t z c qs), none⟩ :: l) e h lv k = bE P U G rs Ψ (evE U G (.bsl n t z c qs) e h) d l e lv k := nr rfl
@[go_sem] theorem Rg_mkM (d : Option Nat)  : Rg P U G rs Ψ (⟨d, .mkM, none⟩ :: l) e h lv k = bE P U G rs Ψ (evE U G .mkM e h) d l e lv k := nr rfl
@[go_sem] theorem Rg_up (d : Option Nat) (q : KT) (x y z : X) : Rg P U G rs Ψ (⟨d, (.up q x y z), none⟩ :: l) e h lv k = bE P U G rs Ψ (evE U G (.up q x y z) e h) d l e lv k := nr rfl
@[go_sem] theorem Rg_ap (d : Option Nat) (n b : Nat) (t : TypeId) (x y : X) : Rg P U G rs Ψ (⟨d, (.ap n b t x y), none⟩ :: l) e h lv k = bE P U G rs Ψ (evE U G (.ap n b t x y) e h) d l e lv k := nr rfl
@[go_sem] theorem Rg_apS (d : Option Nat) (b : Nat) (t : TypeId) (x y : X) : Rg P U G rs Ψ (⟨d, (.apS b t x y), none⟩ :: l) e h lv k = bE P U G rs Ψ (evE U G (.apS b t x y) e h) d l e lv k := nr rfl
@[go_sem] theorem Rg_clr (d : Option Nat) (n : Nat) (z : List AV) (x : X) : Rg P U G rs Ψ (⟨d, (.clr n z x), none⟩ :: l) e h lv k = bE P U G rs Ψ (evE U G (.clr n z x) e h) d l e lv k := nr rfl
@[go_sem] theorem Rg_cvS (d : Option Nat) (t : TypeId) (x : X) : Rg P U G rs Ψ (⟨d, (.cvS t x), none⟩ :: l) e h lv k = bE P U G rs Ψ (evE U G (.cvS t x) e h) d l e lv k := nr rfl
@[go_sem] theorem Rg_us (d : Option Nat) (u : TypeId) (x y : X) : Rg P U G rs Ψ (⟨d, (.us u x y), none⟩ :: l) e h lv k = bE P U G rs Ψ (evE U G (.us u x y) e h) d l e lv k := nr rfl
/-! ### regions that draw their order -/
variable {B : Nat} {dl : List (Nat × O × Nat)} {ps : List Pd}
theorem Go_regD (ops : List (Nat × O × Nat)) (lv : List Nat) (hn : newsIn ops = false) (hk : Rd P U G rs Ψ h.next ops [] e h lv k) : Go P U G rs Ψ (.regD ops lv) e h k := by
  unfold Go
  simp only [W, rDs, hn, Bool.false_eq_true, if_false]
  exact hk trivial
theorem Go_regN (ops : List (Nat × O × Nat)) (lv : List Nat) (hn : newsIn ops = true) (hk : Rd P U G rs Ψ h.next ops [] e (ahead h.next ops ⟨h.next + ops.length, h.t⟩) lv k) : Go P U G rs Ψ (.regD ops lv) e h k := by
  unfold Go
  simp only [W, rDs, hn, if_true]
  exact hk trivial
@[go_sem] theorem qG_bool (c b : Bool) (r : Option AV) : qG (.bool c) b r = if c = b then r else some (.tup []) := nr rfl
@[go_sem] theorem qG_tup (vs : List AV) (b : Bool) (r : Option AV) : qG (.tup vs) b r = some (.tup []) := nr rfl
@[go_sem] theorem qv_none (d : Option Nat) (i : I) : qv U G ⟨d, i, none⟩ e h = evQ U G i e h := nr rfl
@[go_sem] theorem qv_guard (d : Option Nat) (i : I) (g : Nat) (b : Bool) : qv U G ⟨d, i, some (g, b)⟩ e h = qG (e.get g) b (evQ U G i e h) := by
  unfold qv qG
  simp only [gd]
  cases e.get g with
  | bool c => cases c <;> cases b <;> rfl
  | _ => rfl
@[go_sem] theorem okAll_nil (m : Nat) : okAll U G h m [] = True := nr rfl
@[go_sem] theorem okAll_cons (m i : Nat) (o : O) (v : AV) (e : Env) : okAll U G h m (⟨i, o, e, v⟩ :: ps) = ((m.testBit i = true ∨ okAt U G h ⟨i, o, e, v⟩) ∧ okAll U G h m ps) := nr rfl
@[go_sem] theorem still_nil (m : Nat) : still m [] = [] := nr rfl
@[go_sem] theorem still_cons (m i : Nat) (o : O) (v : AV) (e : Env) : still m (⟨i, o, e, v⟩ :: ps) = if m.testBit i = true then still m ps else ⟨i, o, e, v⟩ :: still m ps := nr rfl
@[go_sem] theorem Rd_nil : Rd P U G rs Ψ B [] [] e h lv k = Kt P U G rs Ψ k .normal (e.keep lv) h := by
  unfold Rd; simp only [okAll, rD, true_implies]
theorem Rd_nil' (hk : Kt P U G rs Ψ k .normal (e.keep lv) h) : Rd P U G rs Ψ B [] ps e h lv k := fun _ => hk
@[go_sem] theorem dQ_some (v : AV) (d : Option Nat) : dQ P U G rs Ψ B (some v) d dl ps e h lv k = Rd P U G rs Ψ B dl ps (e.put d v) h lv k := nr rfl
@[go_sem] theorem dR_some (v : AV) (j : Nat) (o : O) : dR P U G rs Ψ B (some v) j o dl ps e h lv k = Rd P U G rs Ψ B dl (⟨j, o, e, v⟩ :: ps) (e.put o.d v) h lv k := nr rfl
@[go_sem] theorem dV_fn (f : FuncId) (a b xs : List AV) (m : Nat) (d : Option Nat) : dV P U G rs Ψ B (.fn f a b) xs m d dl ps e h lv k = dC P U G rs Ψ B f (a ++ xs ++ b) m d dl ps e h lv k := nr rfl
theorem dE_some {h0 h : H} {v : AV} {m : Nat} {d : Option Nat} (h1 : okAll U G h m ps) (hk : Rd P U G rs Ψ B dl (still m ps) (e.put d v) h lv k) : dE P U G rs Ψ B h0 (some (v, h)) m d dl ps e lv k := fun _ => ⟨h1, hk (okAll_weaken h1)⟩
@[go_sem] theorem dE_nil (h0 h : H) (v : AV) (m : Nat) (d : Option Nat) : dE P U G rs Ψ B h0 (some (v, h)) m d dl [] e lv k = Rd P U G rs Ψ B dl [] (e.put d v) h lv k := by
  unfold dE Rd; simp only [okAll, still, true_implies, true_and]
theorem dN_some {h0 : H} {z : List AV} {t : TypeId} {j : Nat} {d : Option Nat} (hg : h.get (B + j) = some (.cells z t (some 0))) (hk : Rd P U G rs Ψ B dl (⟨j, ⟨d, .new z t, none⟩, e, .ptr (B + j) 0⟩ :: ps) (e.put d (.ptr (B + j) 0)) h lv k) : dN P U G rs Ψ B (h.get (B + j)) z t j d dl ps e h lv k :=
  fun hok => ⟨hg, hk ⟨.inr hg, hok⟩⟩
theorem dN_some' {z : List AV} {t : TypeId} {j : Nat} {d : Option Nat} (hg : h.get (B + j) = some (.cells z t (some 0))) (hk : Rd P U G rs Ψ B dl (⟨j, ⟨d, .new z t, none⟩, e, .ptr (B + j) 0⟩ :: ps) (e.put d (.ptr (B + j) 0)) h lv k) : dN P U G rs Ψ B (some (.cells z t (some 0))) z t j d dl ps e h lv k :=
  fun hok => ⟨rfl, hk ⟨.inr hg, hok⟩⟩
theorem dC_spec {f : FuncId} {xs : List AV} {m : Nat} {d : Option Nat} {Q : AV → H → Prop} (hs : Spec P U G f xs h Q) (hk : ∀ v h, Q v h → okAll U G h m ps ∧ Rd P U G rs Ψ B dl (still m ps) (e.put d v) h lv k) : dC P U G rs Ψ B f xs m d dl ps e h lv k :=
  fun _ => hs.mono fun v h hq => ⟨(hk v h hq).1, (hk v h hq).2 (okAll_weaken (hk v h hq).1)⟩
theorem dC_pure {f : FuncId} {xs : List AV} {m : Nat} {d : Option Nat} {Q : AV → Prop} (hs : Pure P U G f xs Q) (hk : ∀ v, Q v → Rd P U G rs Ψ B dl (still m ps) (e.put d v) h lv k) : dC P U G rs Ψ B f xs m d dl ps e h lv k :=
  fun hok => (hs h).mono fun v h' ⟨h1, h2⟩ => by subst h2; exact ⟨okAll_zero hok, hk v h1 (okAll_weaken (okAll_zero hok))⟩
theorem dG_on {b c : Bool} {j m : Nat} {i : I} {d : Option Nat} (hc : c = b) (hk : Rd P U G rs Ψ B ((j, ⟨d, i, none⟩, m) :: dl) ps e h lv k) : dG P U G rs Ψ B (.bool c) b j i m d dl ps e h lv k := by
  unfold dG; simp only [hc, if_true]; exact hk
@[go_sem] theorem dG_tt (j m : Nat) (i : I) (d : Option Nat) : dG P U G rs Ψ B (.bool true) true j i m d dl ps e h lv k = Rd P U G rs Ψ B ((j, ⟨d, i, none⟩, m) :: dl) ps e h lv k := nr rfl
@[go_sem] theorem dG_ff (j m : Nat) (i : I) (d : Option Nat) : dG P U G rs Ψ B (.bool false) false j i m d dl ps e h lv k = Rd P U G rs Ψ B ((j, ⟨d, i, none⟩, m) :: dl) ps e h lv k := nr rfl
@[go_sem] theorem dG_tf (j m : Nat) (i : I) (d : Option Nat) : dG P U G rs Ψ B (.bool true) false j i m d dl ps e h lv k = Rd P U G rs Ψ B dl (still m ps) (e.put d (.tup [])) h lv k := by simp [dG]
@[go_sem] theorem dG_ft (j m : Nat) (i : I) (d : Option Nat) : dG P U G rs Ψ B (.bool false) true j i m d dl ps e h lv k = Rd P U G rs Ψ B dl (still m ps) (e.put d (.tup [])) h lv k := by simp [dG]
@[go_sem] theorem dG_tup (vs : List AV) (b : Bool) (j m : Nat) (i : I) (d : Option Nat) : dG P U G rs Ψ B (.tup vs) b j i m d dl ps e h lv k = Rd P U G rs Ψ B dl (still m ps) (e.put d (.tup [])) h lv k := nr rfl
theorem Rd_dG {i : I} (hi : i.acts = true) (j m : Nat) (d : Option Nat) (g : Nat) (b : Bool) (hk : dG P U G rs Ψ B (e.get g) b j i m d dl ps e h lv k) : Rd P U G rs Ψ B ((j, ⟨d, i, some (g, b)⟩, m) :: dl) ps e h lv k := by
  intro hok
  have off : ∀ (o : O), o.i = i → o.d = d → gd o e = some false → Rd P U G rs Ψ B dl (still m ps) (e.put d (.tup [])) h lv k → rD (Spec P U G) U G B ((j, o, m) :: dl) ps e h fun e h => Kt P U G rs Ψ k .normal (e.keep lv) h := by
    rintro ⟨d', i', g'⟩ rfl rfl ho hk
    simp only [rD, hi, if_true, act, ho]
    exact ⟨okAll_zero hok, hk (okAll_weaken (okAll_zero hok))⟩
  unfold dG at hk
  cases hv : e.get g with
  | bool c =>
    rw [hv] at hk
    simp only at hk
    by_cases hc : c = b
    · rw [if_pos hc] at hk
      have ho : gd ⟨d, i, some (g, b)⟩ e = some true := by simp [gd, hv, hc]
      have hk := hk hok
      simp only [rD, hi, if_true, act, ho] at hk ⊢
      exact hk
    · rw [if_neg hc] at hk
      exact off _ rfl rfl (by simp [gd, hv, hc]) hk
  | tup vs =>
    rw [hv] at hk
    exact off _ rfl rfl (by simp [gd, hv]) hk
  | _ => rw [hv] at hk; exact hk.elim
theorem Rd_quiet {j m : Nat} {o : O} (h1 : o.i.acts = false) (h2 : o.i.news = false) (h3 : o.i.reads = false) : Rd P U G rs Ψ B ((j, o, m) :: dl) ps e h lv k = dQ P U G rs Ψ B (qv U G o e h) o.d dl ps e h lv k := by
  unfold Rd dQ
  simp only [rD, h1, h2, h3, Bool.false_eq_true, if_false]
  cases qv U G o e h <;> rfl
theorem Rd_read {j m : Nat} {o : O} (h1 : o.i.acts = false) (h2 : o.i.news = false) (h3 : o.i.reads = true) : Rd P U G rs Ψ B ((j, o, m) :: dl) ps e h lv k = dR P U G rs Ψ B (qv U G o e h) j o dl ps e h lv k := by
  unfold Rd dR
  simp only [rD, h1, h2, h3, Bool.false_eq_true, if_false, if_true]
  cases hv : qv U G o e h with
  | none => rfl
  | some v =>
    have : okAt U G h ⟨j, o, e, v⟩ = (qv U G o e h = some v) := okAt_quiet h2
    simp only [okAll, this, hv, or_true, true_and, Rd]
@[go_sem] theorem Rd_call (j m : Nat) (d : Option Nat) (f : FuncId) (xs : List X) : Rd P U G rs Ψ B ((j, ⟨d, .call f xs, none⟩, m) :: dl) ps e h lv k = dC P U G rs Ψ B f (evs G e xs) m d dl ps e h lv k := nr rfl
@[go_sem] theorem Rd_callv (j m : Nat) (d : Option Nat) (x : X) (xs : List X) : Rd P U G rs Ψ B ((j, ⟨d, .callv x xs, none⟩, m) :: dl) ps e h lv k = dV P U G rs Ψ B (x.ev G e) (evs G e xs) m d dl ps e h lv k := by
  unfold Rd dV
  simp only [rD, I.acts, if_true, act, gd, callOf]
  cases x.ev G e <;> rfl
@[go_sem] theorem Rd_new (j m : Nat) (d : Option Nat) (z : List AV) (t : TypeId) : Rd P U G rs Ψ B ((j, ⟨d, .new z t, none⟩, m) :: dl) ps e h lv k = dN P U G rs Ψ B (h.get (B + j)) z t j d dl ps e h lv k := nr rfl
@[go_sem] theorem Rd_mv (j m : Nat) (d : Option Nat) (g : Option (Nat × Bool)) (x : X) : Rd P U G rs Ψ B ((j, ⟨d, (.mv x), g⟩, m) :: dl) ps e h lv k = dQ P U G rs Ψ B (qv U G ⟨d, (.mv x), g⟩ e h) d dl ps e h lv k := Rd_quiet rfl rfl rfl
@[go_sem] theorem Rd_pick (j m : Nat) (d : Option Nat) (g : Option (Nat × Bool)) (a b c : X) : Rd P U G rs Ψ B ((j, ⟨d, (.pick a b c), g⟩, m) :: dl) ps e h lv k = dQ P U G rs Ψ B (qv U G ⟨d, (.pick a b c), g⟩ e h) d dl ps e h lv k := Rd_quiet rfl rfl rfl
@[go_sem] theorem Rd_fad (j m : Nat) (d : Option Nat) (g : Option (Nat × Bool)) (o : Nat) (x : X) : Rd P U G rs Ψ B ((j, ⟨d, (.fad o x), g⟩, m) :: dl) ps e h lv k = dQ P U G rs Ψ B (qv U G ⟨d, (.fad o x), g⟩ e h) d dl ps e h lv k := Rd_quiet rfl rfl rfl
@[go_sem] theorem Rd_fld (j m : Nat) (d : Option Nat) (g : Option (Nat × Bool)) (o n : Nat) (ag : Bool) (x : X) : Rd P U G rs Ψ B ((j, ⟨d, (.fld o n ag x), g⟩, m) :: dl) ps e h lv k = dQ P U G rs Ψ B (qv U G ⟨d, (.fld o n ag x), g⟩ e h) d dl ps e h lv k := Rd_quiet rfl rfl rfl
@[go_sem] theorem Rd_iad (j m : Nat) (d : Option Nat) (g : Option (Nat × Bool)) (n : Nat) (x i : X) : Rd P U G rs Ψ B ((j, ⟨d, (.iad n x i), g⟩, m) :: dl) ps e h lv k = dQ P U G rs Ψ B (qv U G ⟨d, (.iad n x i), g⟩ e h) d dl ps e h lv k := Rd_quiet rfl rfl rfl
@[go_sem] theorem Rd_iadA (j m : Nat) (d : Option Nat) (g : Option (Nat × Bool)) (n m : Nat) (x i : X) : Rd P U G rs Ψ B ((j, ⟨d, (.iadA n m x i), g⟩, m) :: dl) ps e h lv k = dQ P U G rs Ψ B (qv U G ⟨d, (.iadA n m x i), g⟩ e h) d dl ps e h lv k := Rd_quiet rfl rfl rfl
@[go_sem] theorem Rd_ixS (j m : Nat) (d : Option Nat) (g : Option (Nat × Bool)) (x i : X) : Rd P U G rs Ψ B ((j, ⟨d, (.ixS x i), g⟩, m) :: dl) ps e h lv k = dQ P U G rs Ψ B (qv U G ⟨d, (.ixS x i), g⟩ e h) d dl ps e h lv k := Rd_quiet rfl rfl rfl
@[go_sem] theorem Rd_ixA (j m : Nat) (d : Option Nat) (g : Option (Nat × Bool)) (n m : Nat) (ag : Bool) (x i : X) : Rd P U G rs Ψ B ((j, ⟨d, (.ixA n m ag x i), g⟩, m) :: dl) ps e h lv k = dQ P U G rs Ψ B (qv U G ⟨d, (.ixA n m ag x i), g⟩ e h) d dl ps e h lv k := Rd_quiet rfl rfl rfl
@[go_sem] theorem Rd_ext (j m : Nat) (d : Option Nat) (g : Option (Nat × Bool)) (x : X) (i : Nat) : Rd P U G rs Ψ B ((j, ⟨d, (.ext x i), g⟩, m) :: dl) ps e h lv k = dQ P U G rs Ψ B (qv U G ⟨d, (.ext x i), g⟩ e h) d dl ps e h lv k := Rd_quiet rfl rfl rfl
@[go_sem] theorem Rd_sS (j m : Nat) (d : Option Nat) (g : Option (Nat × Bool)) (x : X) (a b : Option X) : Rd P U G rs Ψ B ((j, ⟨d, (.sS x a b), g⟩, m) :: dl) ps e h lv k = dQ P U G rs Ψ B (qv U G ⟨d, (.sS x a b), g⟩ e h) d dl ps e h lv k := Rd_quiet rfl rfl rfl
@[go_sem] theorem Rd_sL (j m : Nat) (d : Option Nat) (g : Option (Nat × Bool)) (n : Nat) (x : X) (a b c : Option X) : Rd P U G rs Ψ B ((j, ⟨d, (.sL n x a b c), g⟩, m) :: dl) ps e h lv k = dQ P U G rs Ψ B (qv U G ⟨d, (.sL n x a b c), g⟩ e h) d dl ps e h lv k := Rd_quiet rfl rfl rfl
@[go_sem] theorem Rd_sA (j m : Nat) (d : Option Nat) (g : Option (Nat × Bool)) (n m : Nat) (x : X) (a b : Option X) : Rd P U G rs Ψ B ((j, ⟨d, (.sA n m x a b), g⟩, m) :: dl) ps e h lv k = dR P U G rs Ψ B (qv U G ⟨d, (.sA n m x a b), g⟩ e h) j ⟨d, (.sA n m x a b), g⟩ dl ps e h lv k := Rd_read rfl rfl rfl
@[go_sem] theorem Rd_nck (j m : Nat) (d : Option Nat) (g : Option (Nat × Bool)) (x : X) : Rd P U G rs Ψ B ((j, ⟨d, (.nck x), g⟩, m) :: dl) ps e h lv k = dQ P U G rs Ψ B (qv U G ⟨d, (.nck x), g⟩ e h) d dl ps e h lv k := Rd_quiet rfl rfl rfl
@[go_sem] theorem Rd_bld (j m : Nat) (d : Option Nat) (g : Option (Nat × Bool)) (z : List AV) (qs : List (Nat × Nat × X)) : Rd P U G rs Ψ B ((j, ⟨d, (.bld z qs), g⟩, m) :: dl) ps e h lv k = dQ P U G rs Ψ B (qv U G ⟨d, (.bld z qs), g⟩ e h) d dl ps e h lv k := Rd_quiet rfl rfl rfl
@[go_sem] theorem Rd_bin (j m : Nat) (d : Option Nat) (g : Option (Nat × Bool)) (op : BinOp) (c : Ck) (x y : X) : Rd P U G rs Ψ B ((j, ⟨d, (.bin op c x y), g⟩, m) :: dl) ps e h lv k = dR P U G rs Ψ B (qv U G ⟨d, (.bin op c x y), g⟩ e h) j ⟨d, (.bin op c x y), g⟩ dl ps e h lv k := Rd_read rfl rfl rfl
@[go_sem] theorem Rd_un (j m : Nat) (d : Option Nat) (g : Option (Nat × Bool)) (op : UnOp) (x : X) : Rd P U G rs Ψ B ((j, ⟨d, (.un op x), g⟩, m) :: dl) ps e h lv k = dQ P U G rs Ψ B (qv U G ⟨d, (.un op x), g⟩ e h) d dl ps e h lv k := Rd_quiet rfl rfl rfl
@[go_sem] theorem Rd_cvI (j m : Nat) (d : Option Nat) (g : Option (Nat × Bool)) (q : IntKind) (x : X) : Rd P U G rs Ψ B ((j, ⟨d, (.cvI q x), g⟩, m) :: dl) ps e h lv k = dQ P U G rs Ψ B (qv U G ⟨d, (.cvI q x), g⟩ e h) d dl ps e h lv k := Rd_quiet rfl rfl rfl
@[go_sem] theorem Rd_cvR (j m : Nat) (d : Option Nat) (g : Option (Nat × Bool)) (x : X) : Rd P U G rs Ψ B ((j, ⟨d, (.cvR x), g⟩, m) :: dl) ps e h lv k = dQ P U G rs Ψ B (qv U G ⟨d, (.cvR x), g⟩ e h) d dl ps e h lv k := Rd_quiet rfl rfl rfl
@[go_sem] theorem Rd_cvB (j m : Nat) (d : Option Nat) (g : Option (Nat × Bool)) (x : X) : Rd P U G rs Ψ B ((j, ⟨d, (.cvB x), g⟩, m) :: dl) ps e h lv k = dR P U G rs Ψ B (qv U G ⟨d, (.cvB x), g⟩ e h) j ⟨d, (.cvB x), g⟩ dl ps e h lv k := Rd_read rfl rfl rfl
@[go_sem] theorem Rd_cvP (j m : Nat) (d : Option Nat) (g : Option (Nat × Bool)) (x : X) : Rd P U G rs Ψ B ((j, ⟨d, (.cvP x), g⟩, m) :: dl) ps e h lv k = dR P U G rs Ψ B (qv U G ⟨d, (.cvP x), g⟩ e h) j ⟨d, (.cvP x), g⟩ dl ps e h lv k := Rd_read rfl rfl rfl
@[go_sem] theorem Rd_cvQ (j m : Nat) (d : Option Nat) (g : Option (Nat × Bool)) (u : TypeId) (x : X) : Rd P U G rs Ψ B ((j, ⟨d, (.cvQ u x), g⟩, m) :: dl) ps e h lv k = dR P U G rs Ψ B (qv U G ⟨d, (.cvQ u x), g⟩ e h) j ⟨d, (.cvQ u x), g⟩ dl ps e h lv k := Rd_read rfl rfl rfl
@[go_sem] theorem Rd_mkI (j m : Nat) (d : Option Nat) (g : Option (Nat × Bool)) (t : TypeId) (x : X) : Rd P U G rs Ψ B ((j, ⟨d, (.mkI t x), g⟩, m) :: dl) ps e h lv k = dQ P U G rs Ψ B (qv U G ⟨d, (.mkI t x), g⟩ e h) d dl ps e h lv k := Rd_quiet rfl rfl rfl
@[go_sem] theorem Rd_mkF (j m : Nat) (d : Option Nat) (g : Option (Nat × Bool)) (f : FuncId) (a b : List X) : Rd P U G rs Ψ B ((j, ⟨d, (.mkF f a b), g⟩, m) :: dl) ps e h lv k = dQ P U G rs Ψ B (qv U G ⟨d, (.mkF f a b), g⟩ e h) d dl ps e h lv k := Rd_quiet rfl rfl rfl
@[go_sem] theorem Rd_len (j m : Nat) (d : Option Nat) (g : Option (Nat × Bool)) (n : Nat) (x : X) : Rd P U G rs Ψ B ((j, ⟨d, (.len n x), g⟩, m) :: dl) ps e h lv k = dR P U G rs Ψ B (qv U G ⟨d, (.len n x), g⟩ e h) j ⟨d, (.len n x), g⟩ dl ps e h lv k := Rd_read rfl rfl rfl
@[go_sem] theorem Rd_mn (j m : Nat) (d : Option Nat) (g : Option (Nat × Bool)) (xs : List X) : Rd P U G rs Ψ B ((j, ⟨d, (.mn xs), g⟩, m) :: dl) ps e h lv k = dQ P U G rs Ψ B (qv U G ⟨d, (.mn xs), g⟩ e h) d dl ps e h lv k := Rd_quiet rfl rfl rfl
@[go_sem] theorem Rd_mx (j m : Nat) (d : Option Nat) (g : Option (Nat × Bool)) (xs : List X) : Rd P U G rs Ψ B ((j, ⟨d, (.mx xs), g⟩, m) :: dl) ps e h lv k = dQ P U G rs Ψ B (qv U G ⟨d, (.mx xs), g⟩ e h) d dl ps e h lv k := Rd_quiet rfl rfl rfl
@[go_sem] theorem Rd_ld (j m : Nat) (d : Option Nat) (g : Option (Nat × Bool)) (n : Nat) (ag : Bool) (x : X) : Rd P U G rs Ψ B ((j, ⟨d, (.ld n ag x), g⟩, m) :: dl) ps e h lv k = dR P U G rs Ψ B (qv U G ⟨d, (.ld n ag x), g⟩ e h) j ⟨d, (.ld n ag x), g⟩ dl ps e h lv k := Rd_read rfl rfl rfl
@[go_sem] theorem Rd_lk (j m : Nat) (d : Option Nat) (g : Option (Nat × Bool)) (q : KT) (z : AV) (ok : Bool) (x y : X) : Rd P U G rs Ψ B ((j, ⟨d, (.lk q z ok x y), g⟩, m) :: dl) ps e h lv k = dR P U G rs Ψ B (qv U G ⟨d, (.lk q z ok x y), g⟩ e h) j ⟨d, (.lk q z ok x y), g⟩ dl ps e h lv k := Rd_read rfl rfl rfl
@[go_sem] theorem Rd_sd (j m : Nat) (d : Option Nat) (g : Option (Nat × Bool)) (x : X) : Rd P U G rs Ψ B ((j, ⟨d, (.sd x), g⟩, m) :: dl) ps e h lv k = dQ P U G rs Ψ B (qv U G ⟨d, (.sd x), g⟩ e h) d dl ps e h lv k := Rd_quiet rfl rfl rfl
@[go_sem] theorem Rd_st (j m : Nat) (d : Option Nat) (n : Nat) (x y : X) : Rd P U G rs Ψ B ((j, ⟨d, (.st n x y), none⟩, m) :: dl) ps e h lv k = dE P U G rs Ψ B h (evE U G (.st n x y) e h) m d dl ps e lv k := nr rfl
@[go_sem] theorem Rd_box (j m : Nat) (d : Option Nat) (n : Nat) (t : TypeId) (x : X) : Rd P U G rs Ψ B ((j, ⟨d, (.box n t x), none⟩, m) :: dl) ps e h lv k = dE P U G rs Ψ B h (evE U G (.box n t x) e h) m d dl ps e lv k := nr rfl
@[go_sem] theorem Rd_mkS (j m : Nat) (d : Option Nat) (n b : Nat) (t : TypeId) (z : List AV) (x y : X) : Rd P U G rs Ψ B ((j, ⟨d, (.mkS n b t z x y), none⟩, m) :: dl) ps e h lv k = dE P U G rs Ψ B h (evE U G (.mkS n b t z x y) e h) m d dl ps e lv k := nr rfl
@[go_sem] theorem Rd_bsl (j m : Nat) (d : Option Nat) (n : Nat) (t : TypeId) (z : List AV) (c : Nat) (qs : List (Nat × X)) : Rd P U G rs Ψ B ((j, ⟨d, (.bsl n t z c qs), none⟩, m) :: dl) ps e h lv k = dE P U G rs Ψ B h (evE U G (.bsl n t z c qs) e h) m d dl ps e lv k := nr rfl
@[go_sem] theorem Rd_mkM (j m : Nat) (d : Option Nat)  : Rd P U G rs Ψ B ((j, ⟨d, .mkM, none⟩, m) :: dl) ps e h lv k = dE P U G rs Ψ B h (evE U G .mkM e h) m d dl ps e lv k := nr rfl
@[go_sem] theorem Rd_up (j m : Nat) (d : Option Nat) (q : KT) (x y z : X) : Rd P U G rs Ψ B ((j, ⟨d, (.up q x y z), none⟩, m) :: dl) ps e h lv k = dE P U G rs Ψ B h (evE U G (.up q x y z) e h) m d dl ps e lv k := nr rfl
@[go_sem] theorem Rd_ap (j m : Nat) (d : Option Nat) (n b : Nat) (t : TypeId) (x y : X) : Rd P U G rs Ψ B ((j, ⟨d, (.ap n b t x y), none⟩, m) :: dl) ps e h lv k = dE P U G rs Ψ B h (evE U G (.ap n b t x y) e h) m d dl ps e lv k := nr rfl
@[go_sem] theorem Rd_apS (j m : Nat) (d : Option Nat) (b : Nat) (t : TypeId) (x y : X) : Rd P U G rs Ψ B ((j, ⟨d, (.apS b t x y), none⟩, m) :: dl) ps e h lv k = dE P U G rs Ψ B h (evE U G (.apS b t x y) e h) m d dl ps e lv k := nr rfl
@[go_sem] theorem Rd_clr (j m : Nat) (d : Option Nat) (n : Nat) (z : List AV) (x : X) : Rd P U G rs Ψ B ((j, ⟨d, (.clr n z x), none⟩, m) :: dl) ps e h lv k = dE P U G rs Ψ B h (evE U G (.clr n z x) e h) m d dl ps e lv k := nr rfl
@[go_sem] theorem Rd_cvS (j m : Nat) (d : Option Nat) (t : TypeId) (x : X) : Rd P U G rs Ψ B ((j, ⟨d, (.cvS t x), none⟩, m) :: dl) ps e h lv k = dE P U G rs Ψ B h (evE U G (.cvS t x) e h) m d dl ps e lv k := nr rfl
@[go_sem] theorem Rd_us (j m : Nat) (d : Option Nat) (u : TypeId) (x y : X) : Rd P U G rs Ψ B ((j, ⟨d, (.us u x y), none⟩, m) :: dl) ps e h lv k = dE P U G rs Ψ B h (evE U G (.us u x y) e h) m d dl ps e lv k := nr rfl
@[go_sem] theorem ahead_mv (B j m : Nat) (d : Option Nat) (g : Option (Nat × Bool)) (x : X) (l : List (Nat × O × Nat)) (h : H) : ahead B ((j, ⟨d, (.mv x), g⟩, m) :: l) h = ahead B l h := nr rfl
@[go_sem] theorem ahead_pick (B j m : Nat) (d : Option Nat) (g : Option (Nat × Bool)) (a b c : X) (l : List (Nat × O × Nat)) (h : H) : ahead B ((j, ⟨d, (.pick a b c), g⟩, m) :: l) h = ahead B l h := nr rfl
@[go_sem] theorem ahead_fad (B j m : Nat) (d : Option Nat) (g : Option (Nat × Bool)) (o : Nat) (x : X) (l : List (Nat × O × Nat)) (h : H) : ahead B ((j, ⟨d, (.fad o x), g⟩, m) :: l) h = ahead B l h := nr rfl
@[go_sem] theorem ahead_fld (B j m : Nat) (d : Option Nat) (g : Option (Nat × Bool)) (o n : Nat) (ag : Bool) (x : X) (l : List (Nat × O × Nat)) (h : H) : ahead B ((j, ⟨d, (.fld o n ag x), g⟩, m) :: l) h = ahead B l h := nr rfl
@[go_sem] theorem ahead_iad (B j m : Nat) (d : Option Nat) (g : Option (Nat × Bool)) (n : Nat) (x i : X) (l : List (Nat × O × Nat)) (h : H) : ahead B ((j, ⟨d, (.iad n x i), g⟩, m) :: l) h = ahead B l h := nr rfl
@[go_sem] theorem ahead_iadA (B j m : Nat) (d : Option Nat) (g : Option (Nat × Bool)) (n m : Nat) (x i : X) (l : List (Nat × O × Nat)) (h : H) : ahead B ((j, ⟨d, (.iadA n m x i), g⟩, m) :: l) h = ahead B l h := nr rfl
@[go_sem] theorem ahead_ixS (B j m : Nat) (d : Option Nat) (g : Option (Nat × Bool)) (x i : X) (l : List (Nat × O × Nat)) (h : H) : ahead B ((j, ⟨d, (.ixS x i), g⟩, m) :: l) h = ahead B l h := nr rfl
@[go_sem] theorem ahead_ixA (B j m : Nat) (d : Option Nat) (g : Option (Nat × Bool)) (n m : Nat) (ag : Bool) (x i : X) (l : List (Nat × O × Nat)) (h : H) : ahead B ((j, ⟨d, (.ixA n m ag x i), g⟩, m) :: l) h = ahead B l h := nr rfl
@[go_sem] theorem ahead_ext (B j m : Nat) (d : Option Nat) (g : Option (Nat × Bool)) (x : X) (i : Nat) (l : List (Nat × O × Nat)) (h : H) : ahead B ((j, ⟨d, (.ext x i), g⟩, m) :: l) h = ahead B l h := nr rfl
@[go_sem] theorem ahead_sS (B j m : Nat) (d : Option Nat) (g : Option (Nat × Bool)) (x : X) (a b : Option X) (l : List (Nat × O × Nat)) (h : H) : ahead B ((j, ⟨d, (.sS x a b), g⟩, m) :: l) h = ahead B l h := nr rfl
@[go_sem] theorem ahead_sL (B j m : Nat) (d : Option Nat) (g : Option (Nat × Bool)) (n : Nat) (x : X) (a b c : Option X) (l : List (Nat × O × Nat)) (h : H) : ahead B ((j, ⟨d, (.sL n x a b c), g⟩, m) :: l) h = ahead B l h := nr rfl
@[go_sem] theorem ahead_sA (B j m : Nat) (d : Option Nat) (g : Option (Nat × Bool)) (n m : Nat) (x : X) (a b : Option X) (l : List (Nat × O × Nat)) (h : H) : ahead B ((j, ⟨d, (.sA n m x a b), g⟩, m) :: l) h = ahead B l h := nr rfl
@[go_sem] theorem ahead_nck (B j m : Nat) (d : Option Nat) (g : Option (Nat × Bool)) (x : X) (l : List (Nat × O × Nat)) (h : H) : ahead B ((j, ⟨d, (.nck x), g⟩, m) :: l) h = ahead B l h := nr rfl
@[go_sem] theorem ahead_bld (B j m : Nat) (d : Option Nat) (g : Option (Nat × Bool)) (z : List AV) (qs : List (Nat × Nat × X)) (l : List (Nat × O × Nat)) (h : H) : ahead B ((j, ⟨d, (.bld z qs), g⟩, m) :: l) h = ahead B l h := nr rfl
@[go_sem] theorem ahead_bin (B j m : Nat) (d : Option Nat) (g : Option (Nat × Bool)) (op : BinOp) (c : Ck) (x y : X) (l : List (Nat × O × Nat)) (h : H) : ahead B ((j, ⟨d, (.bin op c x y), g⟩, m) :: l) h = ahead B l h := nr rfl
@[go_sem] theorem ahead_un (B j m : Nat) (d : Option Nat) (g : Option (Nat × Bool)) (op : UnOp) (x : X) (l : List (Nat × O × Nat)) (h : H) : ahead B ((j, ⟨d, (.un op x), g⟩, m) :: l) h = ahead B l h := nr rfl
@[go_sem] theorem ahead_cvI (B j m : Nat) (d : Option Nat) (g : Option (Nat × Bool)) (q : IntKind) (x : X) (l : List (Nat × O × Nat)) (h : H) : ahead B ((j, ⟨d, (.cvI q x), g⟩, m) :: l) h = ahead B l h := nr rfl
@[go_sem] theorem ahead_cvR (B j m : Nat) (d : Option Nat) (g : Option (Nat × Bool)) (x : X) (l : List (Nat × O × Nat)) (h : H) : ahead B ((j, ⟨d, (.cvR x), g⟩, m) :: l) h = ahead B l h := nr rfl
@[go_sem] theorem ahead_cvB (B j m : Nat) (d : Option Nat) (g : Option (Nat × Bool)) (x : X) (l : List (Nat × O × Nat)) (h : H) : ahead B ((j, ⟨d, (.cvB x), g⟩, m) :: l) h = ahead B l h := nr rfl
@[go_sem] theorem ahead_cvP (B j m : Nat) (d : Option Nat) (g : Option (Nat × Bool)) (x : X) (l : List (Nat × O × Nat)) (h : H) : ahead B ((j, ⟨d, (.cvP x), g⟩, m) :: l) h = ahead B l h := nr rfl
@[go_sem] theorem ahead_cvQ (B j m : Nat) (d : Option Nat) (g : Option (Nat × Bool)) (u : TypeId) (x : X) (l : List (Nat × O × Nat)) (h : H) : ahead B ((j, ⟨d, (.cvQ u x), g⟩, m) :: l) h = ahead B l h := nr rfl
@[go_sem] theorem ahead_mkI (B j m : Nat) (d : Option Nat) (g : Option (Nat × Bool)) (t : TypeId) (x : X) (l : List (Nat × O × Nat)) (h : H) : ahead B ((j, ⟨d, (.mkI t x), g⟩, m) :: l) h = ahead B l h := nr rfl
@[go_sem] theorem ahead_mkF (B j m : Nat) (d : Option Nat) (g : Option (Nat × Bool)) (f : FuncId) (a b : List X) (l : List (Nat × O × Nat)) (h : H) : ahead B ((j, ⟨d, (.mkF f a b), g⟩, m) :: l) h = ahead B l h := nr rfl
@[go_sem] theorem ahead_len (B j m : Nat) (d : Option Nat) (g : Option (Nat × Bool)) (n : Nat) (x : X) (l : List (Nat × O × Nat)) (h : H) : ahead B ((j, ⟨d, (.len n x), g⟩, m) :: l) h = ahead B l h := nr rfl
@[go_sem] theorem ahead_mn (B j m : Nat) (d : Option Nat) (g : Option (Nat × Bool)) (xs : List X) (l : List (Nat × O × Nat)) (h : H) : ahead B ((j, ⟨d, (.mn xs), g⟩, m) :: l) h = ahead B l h := nr rfl
@[go_sem] theorem ahead_mx (B j m : Nat) (d : Option Nat) (g : Option (Nat × Bool)) (xs : List X) (l : List (Nat × O × Nat)) (h : H) : ahead B ((j, ⟨d, (.mx xs), g⟩, m) :: l) h = ahead B l h := nr rfl
@[go_sem] theorem ahead_ld (B j m : Nat) (d : Option Nat) (g : Option (Nat × Bool)) (n : Nat) (ag : Bool) (x : X) (l : List (Nat × O × Nat)) (h : H) : ahead B ((j, ⟨d, (.ld n ag x), g⟩, m) :: l) h = ahead B l h := nr rfl
@[go_sem] theorem ahead_lk (B j m : Nat) (d : Option Nat) (g : Option (Nat × Bool)) (q : KT) (z : AV) (ok : Bool) (x y : X) (l : List (Nat × O × Nat)) (h : H) : ahead B ((j, ⟨d, (.lk q z ok x y), g⟩, m) :: l) h = ahead B l h := nr rfl
@[go_sem] theorem ahead_sd (B j m : Nat) (d : Option Nat) (g : Option (Nat × Bool)) (x : X) (l : List (Nat × O × Nat)) (h : H) : ahead B ((j, ⟨d, (.sd x), g⟩, m) :: l) h = ahead B l h := nr rfl
@[go_sem] theorem ahead_st (B j m : Nat) (d : Option Nat) (g : Option (Nat × Bool)) (n : Nat) (x y : X) (l : List (Nat × O × Nat)) (h : H) : ahead B ((j, ⟨d, (.st n x y), g⟩, m) :: l) h = ahead B l h := nr rfl
@[go_sem] theorem ahead_box (B j m : Nat) (d : Option Nat) (g : Option (Nat × Bool)) (n : Nat) (t : TypeId) (x : X) (l : List (Nat × O × Nat)) (h : H) : ahead B ((j, ⟨d, (.box n t x), g⟩, m) :: l) h = ahead B l h := nr rfl
@[go_sem] theorem ahead_mkS (B j m : Nat) (d : Option Nat) (g : Option (Nat × Bool)) (n b : Nat) (t : TypeId) (z : List AV) (x y : X) (l : List (Nat × O × Nat)) (h : H) : ahead B ((j, ⟨d, (.mkS n b t z x y), g⟩, m) :: l) h = ahead B l h := nr rfl
@[go_sem] theorem ahead_bsl (B j m : Nat) (d : Option Nat) (g : Option (Nat × Bool)) (n : Nat) (t : TypeId) (z : List AV) (c : Nat) (qs : List (Nat × X)) (l : List (Nat × O × Nat)) (h : H) : ahead B ((j, ⟨d, (.bsl n t z c qs), g⟩, m) :: l) h = ahead B l h := nr rfl
@[go_sem] theorem ahead_mkM (B j m : Nat) (d : Option Nat) (g : Option (Nat × Bool))  (l : List (Nat × O × Nat)) (h : H) : ahead B ((j, ⟨d, .mkM, g⟩, m) :: l) h = ahead B l h := nr rfl
@[go_sem] theorem ahead_up (B j m : Nat) (d : Option Nat) (g : Option (Nat × Bool)) (q : KT) (x y z : X) (l : List (Nat × O × Nat)) (h : H) : ahead B ((j, ⟨d, (.up q x y z), g⟩, m) :: l) h = ahead B l h := nr rfl
@[go_sem] theorem ahead_ap (B j m : Nat) (d : Option Nat) (g : Option (Nat × Bool)) (n b : Nat) (t : TypeId) (x y : X) (l : List (Nat × O × Nat)) (h : H) : ahead B ((j, ⟨d, (.ap n b t x y), g⟩, m) :: l) h = ahead B l h := nr rfl
@[go_sem] theorem ahead_apS (B j m : Nat) (d : Option Nat) (g : Option (Nat × Bool)) (b : Nat) (t : TypeId) (x y : X) (l : List (Nat × O × Nat)) (h : H) : ahead B ((j, ⟨d, (.apS b t x y), g⟩, m) :: l) h = ahead B l h := nr rfl
@[go_sem] theorem ahead_clr (B j m : Nat) (d : Option Nat) (g : Option (Nat × Bool)) (n : Nat) (z : List AV) (x : X) (l : List (Nat × O × Nat)) (h : H) : ahead B ((j, ⟨d, (.clr n z x), g⟩, m) :: l) h = ahead B l h := nr rfl
@[go_sem] theorem ahead_cvS (B j m : Nat) (d : Option Nat) (g : Option (Nat × Bool)) (t : TypeId) (x : X) (l : List (Nat × O × Nat)) (h : H) : ahead B ((j, ⟨d, (.cvS t x), g⟩, m) :: l) h = ahead B l h := nr rfl
@[go_sem] theorem ahead_us (B j m : Nat) (d : Option Nat) (g : Option (Nat × Bool)) (u : TypeId) (x y : X) (l : List (Nat × O × Nat)) (h : H) : ahead B ((j, ⟨d, (.us u x y), g⟩, m) :: l) h = ahead B l h := nr rfl
@[go_sem] theorem ahead_call (B j m : Nat) (d : Option Nat) (g : Option (Nat × Bool)) (f : FuncId) (xs : List X) (l : List (Nat × O × Nat)) (h : H) : ahead B ((j, ⟨d, (.call f xs), g⟩, m) :: l) h = ahead B l h := nr rfl
@[go_sem] theorem ahead_callv (B j m : Nat) (d : Option Nat) (g : Option (Nat × Bool)) (x : X) (xs : List X) (l : List (Nat × O × Nat)) (h : H) : ahead B ((j, ⟨d, (.callv x xs), g⟩, m) :: l) h = ahead B l h := nr rfl
@[go_sem] theorem okAt_sA (j : Nat) (d : Option Nat) (g : Option (Nat × Bool)) (n m : Nat) (x : X) (a b : Option X) (e : Env) (v : AV) (h : H) : okAt U G h ⟨j, ⟨d, (.sA n m x a b), g⟩, e, v⟩ = (qv U G ⟨d, (.sA n m x a b), g⟩ e h = some v) := nr rfl
@[go_sem] theorem okAt_bin (j : Nat) (d : Option Nat) (g : Option (Nat × Bool)) (op : BinOp) (c : Ck) (x y : X) (e : Env) (v : AV) (h : H) : okAt U G h ⟨j, ⟨d, (.bin op c x y), g⟩, e, v⟩ = (qv U G ⟨d, (.bin op c x y), g⟩ e h = some v) := nr rfl
@[go_sem] theorem okAt_cvB (j : Nat) (d : Option Nat) (g : Option (Nat × Bool)) (x : X) (e : Env) (v : AV) (h : H) : okAt U G h ⟨j, ⟨d, (.cvB x), g⟩, e, v⟩ = (qv U G ⟨d, (.cvB x), g⟩ e h = some v) := nr rfl
@[go_sem] theorem okAt_cvP (j : Nat) (d : Option Nat) (g : Option (Nat × Bool)) (x : X) (e : Env) (v : AV) (h : H) : okAt U G h ⟨j, ⟨d, (.cvP x), g⟩, e, v⟩ = (qv U G ⟨d, (.cvP x), g⟩ e h = some v) := nr rfl
@[go_sem] theorem okAt_cvQ (j : Nat) (d : Option Nat) (g : Option (Nat × Bool)) (u : TypeId) (x : X) (e : Env) (v : AV) (h : H) : okAt U G h ⟨j, ⟨d, (.cvQ u x), g⟩, e, v⟩ = (qv U G ⟨d, (.cvQ u x), g⟩ e h = some v) := nr rfl
@[go_sem] theorem okAt_len (j : Nat) (d : Option Nat) (g : Option (Nat × Bool)) (n : Nat) (x : X) (e : Env) (v : AV) (h : H) : okAt U G h ⟨j, ⟨d, (.len n x), g⟩, e, v⟩ = (qv U G ⟨d, (.len n x), g⟩ e h = some v) := nr rfl
@[go_sem] theorem okAt_ld (j : Nat) (d : Option Nat) (g : Option (Nat × Bool)) (n : Nat) (ag : Bool) (x : X) (e : Env) (v : AV) (h : H) : okAt U G h ⟨j, ⟨d, (.ld n ag x), g⟩, e, v⟩ = (qv U G ⟨d, (.ld n ag x), g⟩ e h = some v) := nr rfl
@[go_sem] theorem okAt_lk (j : Nat) (d : Option Nat) (g : Option (Nat × Bool)) (q : KT) (z : AV) (ok : Bool) (x y : X) (e : Env) (v : AV) (h : H) : okAt U G h ⟨j, ⟨d, (.lk q z ok x y), g⟩, e, v⟩ = (qv U G ⟨d, (.lk q z ok x y), g⟩ e h = some v) := nr rfl
@[go_sem] theorem okAt_new (j : Nat) (d : Option Nat) (g : Option (Nat × Bool)) (z : List AV) (t : TypeId) (e : Env) (l : Nat) (h : H) : okAt U G h ⟨j, ⟨d, .new z t, g⟩, e, .ptr l 0⟩ = (h.get l = some (.cells z t (some 0))) := nr rfl
@[go_sem] theorem tb_lit (m i : Nat) : m.testBit i = decide (m / 2 ^ i % 2 = 1) := Nat.testBit_eq_decide_div_mod_eq
theorem Spec_go (hU : ∀ t u, U.contains (t, u) = true → size P t = some 2 ∧ ∀ k, liesAt P P.depth t (k + 1) 0 u 1 = true) (hm : P.follows .mixedOrders = true) {f : FuncId} {fi : FI} (hf : FnOk P f fi) {xs : List AV} (hlen : Nat.ble xs.length fi.N = true) {h : H}
    (hW : Go P U G fi.rs Ψ fi.S (params xs 0) h []) : Spec P U G f xs h Ψ := by
  refine Spec_of (C := Spec P U G) ⟨hU, fun f xs h Ψ hs => hs⟩ hm hf (Nat.le_of_ble_eq_true hlen) ?_
  have : (Kt P U G fi.rs Ψ []) = fun x e h' => match x with
      | .normal | .ret => ∃ v, resE U G e h' fi.rs = some v ∧ Ψ v h'
      | _ => False := by
    funext x e h'
    cases x <;> simp only [Kt, fin]
    all_goals
      cases resE U G e h' fi.rs <;> simp
  unfold Go at hW
  rw [this] at hW
  exact hW
end
end Go.Eng
namespace Go.Eng
section
variable {U : List (TypeId × TypeId)} {G : Nat → AV} {e : Env} {h : H}
@[go_sem] theorem elt_bool (b : Bool) : AV.elt (.bool b) = true := nr rfl
@[go_sem] theorem leaf_bool (b : Bool) : AV.leaf (.bool b) = true := nr rfl
@[go_sem] theorem cells_bool (b : Bool) : AV.cells (.bool b) = [(.bool b)] := nr rfl
@[go_sem] theorem elt_int (k : IntKind) (n : Int) : AV.elt (.int k n) = true := nr rfl
@[go_sem] theorem leaf_int (k : IntKind) (n : Int) : AV.leaf (.int k n) = true := nr rfl
@[go_sem] theorem cells_int (k : IntKind) (n : Int) : AV.cells (.int k n) = [(.int k n)] := nr rfl
@[go_sem] theorem elt_str (s : List Nat) : AV.elt (.str s) = true := nr rfl
@[go_sem] theorem leaf_str (s : List Nat) : AV.leaf (.str s) = true := nr rfl
@[go_sem] theorem cells_str (s : List Nat) : AV.cells (.str s) = [(.str s)] := nr rfl
@[go_sem] theorem elt_nilp  : AV.elt .nilp = true := nr rfl
@[go_sem] theorem leaf_nilp  : AV.leaf .nilp = true := nr rfl
@[go_sem] theorem cells_nilp  : AV.cells .nilp = [.nilp] := nr rfl
@[go_sem] theorem elt_nils  : AV.elt .nils = true := nr rfl
@[go_sem] theorem leaf_nils  : AV.leaf .nils = true := nr rfl
@[go_sem] theorem cells_nils  : AV.cells .nils = [.nils] := nr rfl
@[go_sem] theorem elt_nilm  : AV.elt .nilm = true := nr rfl
@[go_sem] theorem leaf_nilm  : AV.leaf .nilm = true := nr rfl
@[go_sem] theorem cells_nilm  : AV.cells .nilm = [.nilm] := nr rfl
@[go_sem] theorem elt_nilf  : AV.elt .nilf = true := nr rfl
@[go_sem] theorem leaf_nilf  : AV.leaf .nilf = true := nr rfl
@[go_sem] theorem cells_nilf  : AV.cells .nilf = [.nilf] := nr rfl
@[go_sem] theorem elt_nili  : AV.elt .nili = true := nr rfl
@[go_sem] theorem leaf_nili  : AV.leaf .nili = true := nr rfl
@[go_sem] theorem cells_nili  : AV.cells .nili = [.nili] := nr rfl
@[go_sem] theorem elt_ptr (l o : Nat) : AV.elt (.ptr l o) = true := nr rfl
@[go_sem] theorem leaf_ptr (l o : Nat) : AV.leaf (.ptr l o) = true := nr rfl
@[go_sem] theorem cells_ptr (l o : Nat) : AV.cells (.ptr l o) = [(.ptr l o)] := nr rfl
@[go_sem] theorem elt_fptr (cs : List AV) : AV.elt (.fptr cs) = true := nr rfl
@[go_sem] theorem leaf_fptr (cs : List AV) : AV.leaf (.fptr cs) = true := nr rfl
@[go_sem] theorem cells_fptr (cs : List AV) : AV.cells (.fptr cs) = [(.fptr cs)] := nr rfl
@[go_sem] theorem elt_sl (l o z n c : Nat) (x : Bool) : AV.elt (.sl l o z n c x) = true := nr rfl
@[go_sem] theorem leaf_sl (l o z n c : Nat) (x : Bool) : AV.leaf (.sl l o z n c x) = true := nr rfl
@[go_sem] theorem cells_sl (l o z n c : Nat) (x : Bool) : AV.cells (.sl l o z n c x) = [(.sl l o z n c x)] := nr rfl
@[go_sem] theorem elt_fsl (f : Bool) (z : Nat) (es : List AV) : AV.elt (.fsl f z es) = true := nr rfl
@[go_sem] theorem leaf_fsl (f : Bool) (z : Nat) (es : List AV) : AV.leaf (.fsl f z es) = true := nr rfl
@[go_sem] theorem cells_fsl (f : Bool) (z : Nat) (es : List AV) : AV.cells (.fsl f z es) = [(.fsl f z es)] := nr rfl
@[go_sem] theorem elt_map (l : Nat) : AV.elt (.map l) = true := nr rfl
@[go_sem] theorem leaf_map (l : Nat) : AV.leaf (.map l) = true := nr rfl
@[go_sem] theorem cells_map (l : Nat) : AV.cells (.map l) = [(.map l)] := nr rfl
@[go_sem] theorem elt_fn (f : FuncId) (a b : List AV) : AV.elt (.fn f a b) = true := nr rfl
@[go_sem] theorem leaf_fn (f : FuncId) (a b : List AV) : AV.leaf (.fn f a b) = true := nr rfl
@[go_sem] theorem cells_fn (f : FuncId) (a b : List AV) : AV.cells (.fn f a b) = [(.fn f a b)] := nr rfl
@[go_sem] theorem elt_iface (t : TypeId) (v : AV) : AV.elt (.iface t v) = true := nr rfl
@[go_sem] theorem leaf_iface (t : TypeId) (v : AV) : AV.leaf (.iface t v) = true := nr rfl
@[go_sem] theorem cells_iface (t : TypeId) (v : AV) : AV.cells (.iface t v) = [(.iface t v)] := nr rfl
@[go_sem] theorem elt_agg (cs : List AV) : AV.elt (.agg cs) = true := nr rfl
@[go_sem] theorem leaf_agg (cs : List AV) : AV.leaf (.agg cs) = false := nr rfl
@[go_sem] theorem cells_agg (cs : List AV) : AV.cells (.agg cs) = cs := nr rfl
@[go_sem] theorem elt_tup (cs : List AV) : AV.elt (.tup cs) = false := nr rfl
@[go_sem] theorem leaf_tup (cs : List AV) : AV.leaf (.tup cs) = false := nr rfl
@[go_sem] theorem cells_tup (cs : List AV) : AV.cells (.tup cs) = [(.tup cs)] := nr rfl
@[go_sem] theorem elt_any  : AV.elt .any = false := nr rfl
@[go_sem] theorem leaf_any  : AV.leaf .any = false := nr rfl
@[go_sem] theorem cells_any  : AV.cells .any = [.any] := nr rfl
@[go_sem] theorem at_zero {α : Type} (a : α) (l : List α) : (a :: l)[0]? = some a := nr rfl
@[go_sem] theorem at_succ {α : Type} (a : α) (l : List α) (n : Nat) : (a :: l)[n + 1]? = l[n]? := nr rfl
@[go_sem] theorem X.ev_t (n : Nat) : X.ev G e (.t n) = e.get n := nr rfl
@[go_sem] theorem X.ev_c (v : AV) : X.ev G e (.c v) = v := nr rfl
@[go_sem] theorem X.ev_g (n : Nat) : X.ev G e (.g n) = G n := nr rfl
@[go_sem] theorem Env.put_some (d : Nat) (v : AV) : Env.put e (some d) v = (d, v) :: e := nr rfl
@[go_sem] theorem Env.put_none (v : AV) : Env.put e none v = e := nr rfl
@[go_sem] theorem Env.keep_nil : Env.keep e [] = [] := nr rfl
@[go_sem] theorem Env.keep_cons (t : Nat) (l : List Nat) : Env.keep e (t :: l) = (t, e.get t) :: Env.keep e l := nr rfl
@[go_sem] theorem Env.get_nil (t : Nat) : Env.get [] t = .any := nr rfl
attribute [go_sem] Env.get_cons
@[go_sem] theorem evs_nil : evs G e [] = [] := nr rfl
@[go_sem] theorem evs_cons (x : X) (xs : List X) : evs G e (x :: xs) = x.ev G e :: evs G e xs := nr rfl
@[go_sem] theorem params_nil (i : Nat) : params [] i = [] := nr rfl
@[go_sem] theorem params_cons (x : AV) (xs : List AV) (i : Nat) : params (x :: xs) i = (i, x) :: params xs (i + 1) := nr rfl
@[go_sem] theorem resE_one (r : RV) : resE U G e h [r] = resOne U G e h r := nr rfl
@[go_sem] theorem resE_nil : resE U G e h [] = some (.tup []) := nr rfl
@[go_sem] theorem resE_many (r q : RV) (l : List RV) : resE U G e h (r :: q :: l) = (resAll U G e h (r :: q :: l)).map .tup := nr rfl
@[go_sem] theorem resOne_t (n : Nat) : resOne U G e h (.t n) = some (e.get n) := nr rfl
@[go_sem] theorem resOne_c (a n : Nat) (b : Bool) : resOne U G e h (.c a n b) = evQ U G (.ld n b (.t a)) e h := nr rfl
@[go_sem] theorem resAll_nil : resAll U G e h [] = some [] := nr rfl
def consO (x : Option AV) (l : Option (List AV)) : Option (List AV) := match x, l with
  | some x, some xs => some (x :: xs)
  | _, _ => none
@[go_sem] theorem resAll_cons (r : RV) (l : List RV) : resAll U G e h (r :: l) = consO (resOne U G e h r) (resAll U G e h l) := nr rfl
@[go_sem] theorem consO_some (x : AV) (l : List AV) : consO (some x) (some l) = some (x :: l) := nr rfl
/-! ### numbers -/
theorem wr_in {k : IntKind} {n : Int} (h1 : k.min ≤ n) (h2 : n ≤ k.max) : wr k n = n := by
  rw [wr_eq]
  cases k <;> simp [IntKind.wrap, IntKind.min, IntKind.max, IntKind.signed, IntKind.bits] at * <;> omega
@[go_sem] theorem wr_i64 {n : Int} (h1 : -9223372036854775808 ≤ n) (h2 : n ≤ 9223372036854775807) : wr .i64 n = n := by
  unfold wr; rw [if_pos h1, if_pos h2]
@[go_sem] theorem wr_u64 {n : Int} (h1 : 0 ≤ n) (h2 : n ≤ 18446744073709551615) : wr .u64 n = n := by
  rw [wr_eq]; simp [IntKind.wrap, IntKind.signed, IntKind.bits]; omega
@[go_sem] theorem wr_u8 {n : Int} (h1 : 0 ≤ n) (h2 : n ≤ 255) : wr .u8 n = n := by
  rw [wr_eq]; simp [IntKind.wrap, IntKind.signed, IntKind.bits]; omega
@[go_sem] theorem wr_i32 {n : Int} (h1 : -2147483648 ≤ n) (h2 : n ≤ 2147483647) : wr .i32 n = n := by
  rw [wr_eq]; simp [IntKind.wrap, IntKind.signed, IntKind.bits]; omega
@[go_sem] theorem wr_u32 {n : Int} (h1 : 0 ≤ n) (h2 : n ≤ 4294967295) : wr .u32 n = n := by
  rw [wr_eq]; simp [IntKind.wrap, IntKind.signed, IntKind.bits]; omega
@[go_sem] theorem evBin_add (c : Ck) (k : IntKind) (a b : Int) : evBin h .add c (.int k a) (.int k b) = some (.int k (wr k (a + b))) := by simp [evBin, evInt]
@[go_sem] theorem evBin_sub (c : Ck) (k : IntKind) (a b : Int) : evBin h .sub c (.int k a) (.int k b) = some (.int k (wr k (a - b))) := by simp [evBin, evInt]
@[go_sem] theorem evBin_mul (c : Ck) (k : IntKind) (a b : Int) : evBin h .mul c (.int k a) (.int k b) = some (.int k (wr k (a * b))) := by simp [evBin, evInt]
@[go_sem] theorem evBin_quo (c : Ck) (k : IntKind) (a b : Int) : evBin h .quo c (.int k a) (.int k b) = if b = 0 then none else some (.int k (wr k (a.tdiv b))) := by simp [evBin, evInt]
@[go_sem] theorem evBin_rem (c : Ck) (k : IntKind) (a b : Int) : evBin h .rem c (.int k a) (.int k b) = if b = 0 then none else some (.int k (a.tmod b)) := by simp [evBin, evInt]
theorem evBin_and (c : Ck) (k : IntKind) (a b : Int) : evBin h .and c (.int k a) (.int k b) = some (.int k (k.wrap (BitVec.ofInt k.bits a &&& BitVec.ofInt k.bits b).toNat)) := by simp [evBin, evInt]
theorem evBin_or (c : Ck) (k : IntKind) (a b : Int) : evBin h .or c (.int k a) (.int k b) = some (.int k (k.wrap (BitVec.ofInt k.bits a ||| BitVec.ofInt k.bits b).toNat)) := by simp [evBin, evInt]
theorem evBin_shl (c : Ck) (k k' : IntKind) (a b : Int) : evBin h .shl c (.int k a) (.int k' b) = evShift .shl k a b := by simp [evBin]
theorem evBin_shr (c : Ck) (k k' : IntKind) (a b : Int) : evBin h .shr c (.int k a) (.int k' b) = evShift .shr k a b := by simp [evBin]
@[go_sem] theorem evBin_eql (c : Ck) (k : IntKind) (a b : Int) : evBin h .eql c (.int k a) (.int k b) = some (.bool (decide (a = b))) := by simp [evBin, evInt]
@[go_sem] theorem evBin_neq (c : Ck) (k : IntKind) (a b : Int) : evBin h .neq c (.int k a) (.int k b) = some (.bool (decide (¬ a = b))) := by simp [evBin, evInt]
@[go_sem] theorem evBin_lss (c : Ck) (k : IntKind) (a b : Int) : evBin h .lss c (.int k a) (.int k b) = some (.bool (decide (a < b))) := by simp [evBin, evInt]
@[go_sem] theorem evBin_leq (c : Ck) (k : IntKind) (a b : Int) : evBin h .leq c (.int k a) (.int k b) = some (.bool (decide (a ≤ b))) := by simp [evBin, evInt]
@[go_sem] theorem evBin_gtr (c : Ck) (k : IntKind) (a b : Int) : evBin h .gtr c (.int k a) (.int k b) = some (.bool (decide (b < a))) := by simp [evBin, evInt]
@[go_sem] theorem evBin_geq (c : Ck) (k : IntKind) (a b : Int) : evBin h .geq c (.int k a) (.int k b) = some (.bool (decide (b ≤ a))) := by simp [evBin, evInt]
@[go_sem] theorem evBin_str_add (c : Ck) (a b : List Nat) (hl : a.length + b.length ≤ 9223372036854775807) : evBin h .add c (.str a) (.str b) = some (.str (a ++ b)) := by simp [evBin, evStr, hl]
@[go_sem] theorem evBin_str_eql (c : Ck) (a b : List Nat) : evBin h .eql c (.str a) (.str b) = some (.bool (decide (a = b))) := by simp [evBin, evStr]
@[go_sem] theorem evBin_str_neq (c : Ck) (a b : List Nat) : evBin h .neq c (.str a) (.str b) = some (.bool (decide (¬ a = b))) := by simp [evBin, evStr]
@[go_sem] theorem evBin_str_lss (c : Ck) (a b : List Nat) : evBin h .lss c (.str a) (.str b) = some (.bool (ltB a b)) := by simp [evBin, evStr]
@[go_sem] theorem evBin_bool_eql (a b : Bool) : evBin h .eql .bool (.bool a) (.bool b) = some (.bool (a == b)) := by simp [evBin, evBin.evEq]
@[go_sem] theorem evBin_bool_neq (a b : Bool) : evBin h .neq .bool (.bool a) (.bool b) = some (.bool (!(a == b))) := by simp [evBin, evBin.evEq]
@[go_sem] theorem evBin_agg_eql (ks : List KK) (aas bs : List AV) : evBin h .eql (.agg ks) (.agg aas) (.agg bs) = (eqKs h ks aas bs).map .bool := by simp [evBin, evBin.evEq]
@[go_sem] theorem evBin_agg_neq (ks : List KK) (aas bs : List AV) : evBin h .neq (.agg ks) (.agg aas) (.agg bs) = (eqKs h ks aas bs).map fun b => .bool (!b) := by simp [evBin, evBin.evEq]
@[go_sem] theorem evBin_ptr_eql (b : AV) (l o : Nat) : evBin h .eql .ptr (.ptr l o) b = (eqP h (.ptr l o) b).map .bool := by cases b <;> simp [evBin, evBin.evEq]
@[go_sem] theorem evBin_ptr_neq (b : AV) (l o : Nat) : evBin h .neq .ptr (.ptr l o) b = (eqP h (.ptr l o) b).map fun b => .bool (!b) := by cases b <;> simp [evBin, evBin.evEq]
@[go_sem] theorem evBin_nilp_eql (b : AV) : evBin h .eql .ptr .nilp b = (eqP h .nilp b).map .bool := by cases b <;> simp [evBin, evBin.evEq]
@[go_sem] theorem evBin_nilp_neq (b : AV) : evBin h .neq .ptr .nilp b = (eqP h .nilp b).map fun b => .bool (!b) := by cases b <;> simp [evBin, evBin.evEq]
@[go_sem] theorem evBin_ifc_nn : evBin h .eql .ifc .nili .nili = some (.bool true) := nr rfl
@[go_sem] theorem evBin_ifc_in (t : TypeId) (v : AV) : evBin h .eql .ifc (.iface t v) .nili = some (.bool false) := nr rfl
@[go_sem] theorem evBin_ifn_nn : evBin h .neq .ifc .nili .nili = some (.bool false) := nr rfl
@[go_sem] theorem evBin_ifn_in (t : TypeId) (v : AV) : evBin h .neq .ifc (.iface t v) .nili = some (.bool true) := nr rfl
@[go_sem] theorem eqP_nn : eqP h .nilp .nilp = some true := nr rfl
@[go_sem] theorem eqP_pn (l o : Nat) : eqP h (.ptr l o) .nilp = some false := nr rfl
@[go_sem] theorem eqP_np (l o : Nat) : eqP h .nilp (.ptr l o) = some false := nr rfl
@[go_sem] theorem eqP_nf (cs : List AV) : eqP h .nilp (.fptr cs) = some false := nr rfl
@[go_sem] theorem eqP_same (l o o' : Nat) : eqP h (.ptr l o) (.ptr l o') = some (decide (o = o')) := by simp [eqP]
def andK (c : Bool) (r : Option Bool) (L : Prop) [Decidable L] : Option Bool := match r with
  | some r => some (c && r)
  | none => if c then none else if L then some false else none
@[go_sem] theorem andK_some (c r : Bool) (L : Prop) [Decidable L] : andK c (some r) L = some (c && r) := nr rfl
theorem eqKs_len {ks : List KK} : ∀ {aas bs : List AV} {r : Bool}, eqKs h ks aas bs = some r → aas.length = ks.length ∧ bs.length = ks.length := by
  induction ks with
  | nil => intro aas bs r hr; cases aas <;> cases bs <;> simp [eqKs] at hr ⊢
  | cons k ks ih =>
    intro aas bs r hr
    cases aas with
    | nil => simp [eqKs] at hr
    | cons a aas =>
      cases bs with
      | nil => simp [eqKs] at hr
      | cons b bs =>
        simp only [eqKs] at hr
        split at hr
        · have := ih hr; simp [this]
        · split at hr
          · rename_i hl; simp [hl]
          · cases hr
        · cases hr
theorem eqKs_cons {k : KK} {ks : List KK} {a b : AV} {aas bs : List AV} {c : Bool} (hc : eqK h k a b = some c) : eqKs h (k :: ks) (a :: aas) (b :: bs) = andK c (eqKs h ks aas bs) (aas.length = ks.length ∧ bs.length = ks.length) := by
  simp only [eqKs, hc]
  cases c with
  | true => cases hr : eqKs h ks aas bs <;> simp [andK]
  | false =>
    cases hr : eqKs h ks aas bs with
    | none => simp [andK]
    | some r => simp [andK, eqKs_len hr]
@[go_sem] theorem eqKs_nil : eqKs h [] [] [] = some true := nr rfl
@[go_sem] theorem eqKs_int (ks : List KK) (k : IntKind) (a b : Int) (aas bs : List AV) : eqKs h (.int :: ks) (.int k a :: aas) (.int k b :: bs) = andK (decide (a = b)) (eqKs h ks aas bs) (aas.length = ks.length ∧ bs.length = ks.length) := eqKs_cons (by simp [eqK])
@[go_sem] theorem eqKs_str (ks : List KK) (a b : List Nat) (aas bs : List AV) : eqKs h (.str :: ks) (.str a :: aas) (.str b :: bs) = andK (decide (a = b)) (eqKs h ks aas bs) (aas.length = ks.length ∧ bs.length = ks.length) := eqKs_cons (by simp [eqK])
@[go_sem] theorem eqKs_bool (ks : List KK) (a b : Bool) (aas bs : List AV) : eqKs h (.bool :: ks) (.bool a :: aas) (.bool b :: bs) = andK (a == b) (eqKs h ks aas bs) (aas.length = ks.length ∧ bs.length = ks.length) := eqKs_cons (by simp [eqK])
/-! ### operations that leave memory alone -/
@[go_sem] theorem evQ_mv (x : X) : evQ U G (.mv x) e h = some (x.ev G e) := nr rfl
def pickV (c a b : AV) : Option AV := match c with
  | .bool t => some (if t then a else b)
  | _ => none
@[go_sem] theorem evQ_pick (c a b : X) : evQ U G (.pick c a b) e h = pickV (c.ev G e) (a.ev G e) (b.ev G e) := nr rfl
@[go_sem] theorem pickV_true (a b : AV) : pickV (.bool true) a b = some a := nr rfl
@[go_sem] theorem pickV_false (a b : AV) : pickV (.bool false) a b = some b := nr rfl
@[go_sem] theorem pickV_and (c b : Bool) : pickV (.bool c) (.bool b) (.bool false) = some (.bool (c && b)) := by cases c <;> rfl
@[go_sem] theorem pickV_or (c b : Bool) : pickV (.bool c) (.bool true) (.bool b) = some (.bool (c || b)) := by cases c <;> rfl
def fadV (off : Nat) : AV → Option AV
  | .ptr l o => some (.ptr l (o + off))
  | .fptr cs => some (.fptr (cs.drop off))
  | _ => none
@[go_sem] theorem evQ_fad (off : Nat) (x : X) : evQ U G (.fad off x) e h = fadV off (x.ev G e) := by simp only [evQ]; cases x.ev G e <;> rfl
@[go_sem] theorem fadV_ptr (off l o : Nat) : fadV off (.ptr l o) = some (.ptr l (o + off)) := nr rfl
@[go_sem] theorem fadV_fptr (off : Nat) (cs : List AV) : fadV off (.fptr cs) = some (.fptr (cs.drop off)) := nr rfl
def subV (n : Nat) (ag : Bool) (off : Nat) (cs : List AV) : Option AV := match sub cs off n with
  | some r => mkV ag r
  | none => none
theorem subV_one (off : Nat) (cs : List AV) : subV 1 false off cs = cs[off]? := by
  unfold subV sub
  cases hx : cs[off]? with
  | none =>
    have : cs.length ≤ off := by simpa using hx
    have : cs.drop off = [] := by simpa using this
    simp [this]
  | some v =>
    obtain ⟨h1, h2⟩ := List.getElem?_eq_some_iff.1 hx
    have : (cs.drop off).take 1 = [v] := by rw [List.drop_eq_getElem_cons h1]; simp [h2]
    simp [this, mkV]
attribute [go_sem] subV_one
theorem subV_all (n : Nat) (cs : List AV) (hl : cs.length = n) : subV n true 0 cs = some (.agg cs) := by
  subst hl; unfold subV sub; simp [mkV]
@[go_sem] theorem subV_2 (a b : AV) : subV 2 true 0 [a, b] = some (.agg [a, b]) := nr rfl
@[go_sem] theorem subV_3 (a b c : AV) : subV 3 true 0 [a, b, c] = some (.agg [a, b, c]) := nr rfl
@[go_sem] theorem subV_4 (a b c d : AV) : subV 4 true 0 [a, b, c, d] = some (.agg [a, b, c, d]) := nr rfl
@[go_sem] theorem subV_5 (a b c d f : AV) : subV 5 true 0 [a, b, c, d, f] = some (.agg [a, b, c, d, f]) := nr rfl
@[go_sem] theorem subV_n6 (a0 a1 a2 a3 a4 a5 : AV) : subV 6 true 0 [a0, a1, a2, a3, a4, a5] = some (.agg [a0, a1, a2, a3, a4, a5]) := nr rfl
@[go_sem] theorem subV_n7 (a0 a1 a2 a3 a4 a5 a6 : AV) : subV 7 true 0 [a0, a1, a2, a3, a4, a5, a6] = some (.agg [a0, a1, a2, a3, a4, a5, a6]) := nr rfl
@[go_sem] theorem subV_n8 (a0 a1 a2 a3 a4 a5 a6 a7 : AV) : subV 8 true 0 [a0, a1, a2, a3, a4, a5, a6, a7] = some (.agg [a0, a1, a2, a3, a4, a5, a6, a7]) := nr rfl
@[go_sem] theorem subV_n9 (a0 a1 a2 a3 a4 a5 a6 a7 a8 : AV) : subV 9 true 0 [a0, a1, a2, a3, a4, a5, a6, a7, a8] = some (.agg [a0, a1, a2, a3, a4, a5, a6, a7, a8]) := nr rfl
@[go_sem] theorem subV_n10 (a0 a1 a2 a3 a4 a5 a6 a7 a8 a9 : AV) : subV 10 true 0 [a0, a1, a2, a3, a4, a5, a6, a7, a8, a9] = some (.agg [a0, a1, a2, a3, a4, a5, a6, a7, a8, a9]) := nr rfl
@[go_sem] theorem subV_n11 (a0 a1 a2 a3 a4 a5 a6 a7 a8 a9 a10 : AV) : subV 11 true 0 [a0, a1, a2, a3, a4, a5, a6, a7, a8, a9, a10] = some (.agg [a0, a1, a2, a3, a4, a5, a6, a7, a8, a9, a10]) := nr rfl
@[go_sem] theorem subV_1 (a : AV) : subV 1 true 0 [a] = some (.agg [a]) := nr rfl
@[go_sem] theorem subV_succ (n : Nat) (ag : Bool) (off : Nat) (a : AV) (cs : List AV) : subV n ag (off + 1) (a :: cs) = subV n ag off cs := nr rfl
@[go_sem] theorem subV_big (n : Nat) (cs : List AV) (hl : cs.length = n) : subV n true 0 cs = some (.agg cs) := subV_all n cs hl
def ldO (n : Nat) (ag : Bool) (off : Nat) : Option AObj → Option AV
  | some (.cells cs _ _) => subV n ag off cs
  | _ => none
def ldV (n : Nat) (ag : Bool) (h : H) : AV → Option AV
  | .ptr l off => ldO n ag off (h.get l)
  | .fptr cs => subV n ag 0 cs
  | _ => none
@[go_sem] theorem evQ_ld (n : Nat) (ag : Bool) (x : X) : evQ U G (.ld n ag x) e h = ldV n ag h (x.ev G e) := by
  simp only [evQ]
  cases x.ev G e with
  | ptr l off => simp only [ldV]; cases h.get l with
    | none => rfl
    | some o => cases o <;> rfl
  | _ => rfl
@[go_sem] theorem ldV_ptr (n : Nat) (ag : Bool) (l off : Nat) : ldV n ag h (.ptr l off) = ldO n ag off (h.get l) := nr rfl
@[go_sem] theorem ldV_fptr (n : Nat) (ag : Bool) (cs : List AV) : ldV n ag h (.fptr cs) = subV n ag 0 cs := nr rfl
@[go_sem] theorem ldO_cells (n : Nat) (ag : Bool) (off : Nat) (cs : List AV) (t : TypeId) (f : Option Nat) : ldO n ag off (some (.cells cs t f)) = subV n ag off cs := nr rfl
def fldV (off n : Nat) (ag : Bool) : AV → Option AV
  | .agg cs => subV n ag off cs
  | _ => none
@[go_sem] theorem evQ_fld (off n : Nat) (ag : Bool) (x : X) : evQ U G (.fld off n ag x) e h = fldV off n ag (x.ev G e) := by simp only [evQ]; cases x.ev G e <;> rfl
@[go_sem] theorem fldV_agg (off n : Nat) (ag : Bool) (cs : List AV) : fldV off n ag (.agg cs) = subV n ag off cs := nr rfl
def iadV (sz : Nat) (x i : AV) : Option AV := match x, i with
  | .sl l off sz' len _ _, .int _ n => if sz' = sz ∧ 0 ≤ n ∧ n < len then some (.ptr l (off + n.toNat * sz)) else none
  | .fsl _ sz' es, .int _ n => if sz' = sz ∧ 0 ≤ n then match es[n.toNat]? with
    | some v => some (.fptr v.cells)
    | none => none
    else none
  | _, _ => none
@[go_sem] theorem evQ_iad (sz : Nat) (x i : X) : evQ U G (.iad sz x i) e h = iadV sz (x.ev G e) (i.ev G e) := nr rfl
@[go_sem] theorem iadV_sl (l off sz len cap : Nat) (ex : Bool) (k : IntKind) (n : Int) (h1 : 0 ≤ n) (h2 : n < len) : iadV sz (.sl l off sz len cap ex) (.int k n) = some (.ptr l (off + n.toNat * sz)) := by simp [iadV, h1, h2]
def fp (v : AV) : AV := .fptr v.cells
@[go_sem] theorem fp_agg (cs : List AV) : fp (.agg cs) = .fptr cs := nr rfl
@[go_sem] theorem fp_int (k : IntKind) (n : Int) : fp (.int k n) = .fptr [.int k n] := nr rfl
@[go_sem] theorem fp_str (s : List Nat) : fp (.str s) = .fptr [.str s] := nr rfl
@[go_sem] theorem fp_bool (b : Bool) : fp (.bool b) = .fptr [.bool b] := nr rfl
@[go_sem] theorem fp_fsl (f : Bool) (z : Nat) (es : List AV) : fp (.fsl f z es) = .fptr [.fsl f z es] := nr rfl
@[go_sem] theorem iadV_fsl (f : Bool) (sz : Nat) (es : List AV) (k : IntKind) (n : Int) (h1 : 0 ≤ n) : iadV sz (.fsl f sz es) (.int k n) = (es[n.toNat]?).map fp := by
  simp only [iadV, h1, and_self, if_true]
  cases es[n.toNat]? <;> rfl
def iaA (m sz : Nat) (x i : AV) : Option AV := match x, i with
  | .ptr l off, .int _ n => if 0 ≤ n ∧ n < m then some (.ptr l (off + n.toNat * sz)) else none
  | .fptr cs, .int _ n => if 0 ≤ n ∧ n < m then some (.fptr (cs.drop (n.toNat * sz))) else none
  | _, _ => none
@[go_sem] theorem evQ_iadA (m sz : Nat) (x i : X) : evQ U G (.iadA m sz x i) e h = iaA m sz (x.ev G e) (i.ev G e) := nr rfl
@[go_sem] theorem iaA_ptr (m sz l off : Nat) (k : IntKind) (n : Int) (h1 : 0 ≤ n) (h2 : n < m) : iaA m sz (.ptr l off) (.int k n) = some (.ptr l (off + n.toNat * sz)) := by simp [iaA, h1, h2]
@[go_sem] theorem iaA_fptr (m sz : Nat) (cs : List AV) (k : IntKind) (n : Int) (h1 : 0 ≤ n) (h2 : n < m) : iaA m sz (.fptr cs) (.int k n) = some (.fptr (cs.drop (n.toNat * sz))) := by simp [iaA, h1, h2]
def ixV (x i : AV) : Option AV := match x, i with
  | .str s, .int _ n => if 0 ≤ n then match s[n.toNat]? with
    | some b => some (.int .u8 b)
    | none => none
    else none
  | _, _ => none
@[go_sem] theorem evQ_ixS (x i : X) : evQ U G (.ixS x i) e h = ixV (x.ev G e) (i.ev G e) := nr rfl
def u8v (b : Nat) : AV := .int .u8 b
@[go_sem] theorem u8v_eq (b : Nat) : u8v b = .int .u8 b := nr rfl
@[go_sem] theorem ixV_str (s : List Nat) (k : IntKind) (n : Int) (h1 : 0 ≤ n) : ixV (.str s) (.int k n) = (s[n.toNat]?).map u8v := by
  simp only [ixV, h1, if_true]
  cases s[n.toNat]? <;> rfl
def extV (x : AV) (i : Nat) : Option AV := match x with
  | .tup vs => vs[i]?
  | _ => none
@[go_sem] theorem evQ_ext (x : X) (i : Nat) : evQ U G (.ext x i) e h = extV (x.ev G e) i := nr rfl
@[go_sem] theorem extV_tup (vs : List AV) (i : Nat) : extV (.tup vs) i = vs[i]? := nr rfl
@[go_sem] theorem bound_none (d m : Nat) : bound none d m = some d := nr rfl
@[go_sem] theorem bound_int (d m : Nat) (k : IntKind) (n : Int) (h1 : 0 ≤ n) (h2 : n ≤ m) : bound (some (.int k n)) d m = some n.toNat := by simp [bound, h1, h2]
def sSa (s : List Nat) (b : Nat) : Option Nat → Option AV
  | some a => some (.str ((s.take b).drop a))
  | none => none
def sSb (s : List Nat) (lo : Option AV) : Option Nat → Option AV
  | some b => sSa s b (bound lo 0 b)
  | none => none
def sSV (x : AV) (lo hi : Option AV) : Option AV := match x with
  | .str s => sSb s lo (bound hi s.length s.length)
  | _ => none
@[go_sem] theorem evQ_sS (x : X) (lo hi : Option X) : evQ U G (.sS x lo hi) e h = sSV (x.ev G e) (lo.map (·.ev G e)) (hi.map (·.ev G e)) := by
  simp only [evQ]
  cases x.ev G e with
  | str s =>
    simp only [sSV]
    cases bound (Option.map (fun x => X.ev G e x) hi) s.length s.length with
    | none => rfl
    | some b =>
      simp only [sSb]
      cases bound (Option.map (fun x => X.ev G e x) lo) 0 b <;> rfl
  | _ => rfl
@[go_sem] theorem sSV_str (s : List Nat) (lo hi : Option AV) : sSV (.str s) lo hi = sSb s lo (bound hi s.length s.length) := nr rfl
@[go_sem] theorem sSb_some (s : List Nat) (lo : Option AV) (b : Nat) : sSb s lo (some b) = sSa s b (bound lo 0 b) := nr rfl
@[go_sem] theorem sSa_some (s : List Nat) (b a : Nat) : sSa s b (some a) = some (.str ((s.take b).drop a)) := nr rfl
@[go_sem] theorem evQ_sL (sz : Nat) (x : X) (lo hi mx : Option X) : evQ U G (.sL sz x lo hi mx) e h = (match x.ev G e with
    | .nils => cutN (lo.map (·.ev G e)) (hi.map (·.ev G e)) (mx.map (·.ev G e))
    | .sl l off sz' len cap ex => if sz' = sz then cutO l off sz len cap ex (lo.map (·.ev G e)) (hi.map (·.ev G e)) (mx.map (·.ev G e)) else none
    | .fsl full sz' es => if sz' = sz then cutF full sz es (lo.map (·.ev G e)) (hi.map (·.ev G e)) (mx.map (·.ev G e)) else none
    | _ => none) := rfl
def cFa (full : Bool) (sz : Nat) (es : List AV) (b : Nat) : Option Nat → Option AV
  | some a => some (.fsl (full && b == es.length) sz ((es.take b).drop a))
  | none => none
def cFb (full : Bool) (sz : Nat) (es : List AV) (lo : Option AV) : Option Nat → Option AV
  | some b => cFa full sz es b (bound lo 0 b)
  | none => none
@[go_sem] theorem cutF_2 (full : Bool) (sz : Nat) (es : List AV) (lo hi : Option AV) : cutF full sz es lo hi none = cFb full sz es lo (bound hi es.length es.length) := by
  unfold cutF cFb
  simp only
  cases bound hi es.length es.length with
  | none => rfl
  | some b => simp only [cFa]; cases bound lo 0 b <;> rfl
@[go_sem] theorem cFb_some (full : Bool) (sz : Nat) (es : List AV) (lo : Option AV) (b : Nat) : cFb full sz es lo (some b) = cFa full sz es b (bound lo 0 b) := nr rfl
@[go_sem] theorem cFa_some (full : Bool) (sz : Nat) (es : List AV) (a b : Nat) : cFa full sz es b (some a) = some (.fsl (full && b == es.length) sz ((es.take b).drop a)) := nr rfl
@[go_sem] theorem evQ_nck_ptr (x : X) : evQ U G (.nck x) e h = (match x.ev G e with
    | .ptr l o => some (.ptr l o)
    | .fptr cs => some (.fptr cs)
    | .fn f a b => some (.fn f a b)
    | _ => none) := rfl
def aggO : Option (List AV) → Option AV
  | some r => some (.agg r)
  | none => none
@[go_sem] theorem aggO_some (r : List AV) : aggO (some r) = some (.agg r) := nr rfl
@[go_sem] theorem evQ_bld (z : List AV) (ps : List (Nat × Nat × X)) : evQ U G (.bld z ps) e h = aggO (fillC z (evParts G e ps)) := by simp only [evQ]; cases fillC z (evParts G e ps) <;> rfl
@[go_sem] theorem evParts_nil : evParts G e [] = [] := nr rfl
@[go_sem] theorem evParts_cons (o n : Nat) (x : X) (r : List (Nat × Nat × X)) : evParts G e ((o, n, x) :: r) = (o, n, x.ev G e) :: evParts G e r := nr rfl
@[go_sem] theorem evPartsL_nil (sz : Nat) : evPartsL G e sz [] = [] := nr rfl
@[go_sem] theorem evPartsL_cons (sz i : Nat) (x : X) (r : List (Nat × X)) : evPartsL G e sz ((i, x) :: r) = (i * sz, sz, x.ev G e) :: evPartsL G e sz r := nr rfl
@[go_sem] theorem fillC_nil (z : List AV) : fillC z [] = some z := nr rfl
def fillP (c : Bool) (z : List AV) (off n : Nat) (v : AV) (r : List (Nat × Nat × AV)) : Option (List AV) := if c then fillC (z.take off ++ v.cells ++ z.drop (off + n)) r else none
@[go_sem] theorem fillP_true (z : List AV) (off n : Nat) (v : AV) (r : List (Nat × Nat × AV)) : fillP true z off n v r = fillC (z.take off ++ v.cells ++ z.drop (off + n)) r := nr rfl
@[go_sem] theorem fillC_cons (z : List AV) (off n : Nat) (v : AV) (r : List (Nat × Nat × AV)) : fillC z ((off, n, v) :: r) = fillP (v.elt && v.cells.length == n && decide (off + n ≤ z.length) && v.cells.all (·.leaf)) z off n v r := by
  simp only [fillC, fillP]
@[go_sem] theorem evQ_bin (op : BinOp) (k : Ck) (x y : X) : evQ U G (.bin op k x y) e h = evBin h op k (x.ev G e) (y.ev G e) := nr rfl
@[go_sem] theorem evQ_un (op : UnOp) (x : X) : evQ U G (.un op x) e h = (match op, x.ev G e with
    | .neg, .int k n => some (.int k (wr k (0 - n)))
    | .not, .bool b => some (.bool (!b))
    | _, _ => none) := rfl
def cvV (k : IntKind) : AV → Option AV
  | .int _ n => some (.int k (wr k n))
  | _ => none
@[go_sem] theorem evQ_cvI (k : IntKind) (x : X) : evQ U G (.cvI k x) e h = cvV k (x.ev G e) := by simp only [evQ]; cases x.ev G e <;> rfl
@[go_sem] theorem cvV_int (k k' : IntKind) (n : Int) : cvV k (.int k' n) = some (.int k (wr k n)) := nr rfl
@[go_sem] theorem evQ_mkI (t : TypeId) (x : X) : evQ U G (.mkI t x) e h = some (.iface t (x.ev G e)) := nr rfl
@[go_sem] theorem evQ_mkF (f : FuncId) (a b : List X) : evQ U G (.mkF f a b) e h = some (.fn f (evs G e a) (evs G e b)) := nr rfl
def lenM : Option AObj → Option AV
  | some (.map es) => some (.int .i64 es.length)
  | _ => none
def lenV (k : Nat) (h : H) (x : AV) : Option AV := match k, x with
  | 0, .str s => some (.int .i64 s.length)
  | 1, .nils => some (.int .i64 0)
  | 1, .sl _ _ _ len _ _ => some (.int .i64 len)
  | 1, .fsl _ _ es => some (.int .i64 es.length)
  | 2, .nilm => some (.int .i64 0)
  | 2, .map l => lenM (h.get l)
  | _, _ => none
@[go_sem] theorem evQ_len (k : Nat) (x : X) : evQ U G (.len k x) e h = lenV k h (x.ev G e) := by
  have hm : ∀ l, (match h.get l with
      | some (.map es) => some (AV.int .i64 es.length)
      | _ => none) = lenM (h.get l) := fun l => by
    cases h.get l with
    | none => rfl
    | some o => cases o <;> rfl
  simp only [evQ, lenV]
  generalize X.ev G e x = v
  rcases k with _ | _ | _ | k <;> cases v <;> first | rfl | exact hm _
@[go_sem] theorem lenV_str (s : List Nat) : lenV 0 h (.str s) = some (.int .i64 s.length) := nr rfl
@[go_sem] theorem lenV_nils : lenV 1 h .nils = some (.int .i64 0) := nr rfl
@[go_sem] theorem lenV_sl (l off sz len cap : Nat) (ex : Bool) : lenV 1 h (.sl l off sz len cap ex) = some (.int .i64 len) := nr rfl
@[go_sem] theorem lenV_fsl (f : Bool) (sz : Nat) (es : List AV) : lenV 1 h (.fsl f sz es) = some (.int .i64 es.length) := nr rfl
@[go_sem] theorem lenV_map (l : Nat) : lenV 2 h (.map l) = lenM (h.get l) := nr rfl
@[go_sem] theorem lenM_map (es : List (AV × AV)) : lenM (some (.map es)) = some (.int .i64 es.length) := nr rfl
def foldL (f : AV → AV → Option AV) : List AV → Option AV
  | a :: r => foldO f a r
  | [] => none
@[go_sem] theorem evQ_mn (xs : List X) : evQ U G (.mn xs) e h = foldL evMin (evs G e xs) := by simp only [evQ]; cases evs G e xs <;> rfl
@[go_sem] theorem evQ_mx (xs : List X) : evQ U G (.mx xs) e h = foldL evMax (evs G e xs) := by simp only [evQ]; cases evs G e xs <;> rfl
@[go_sem] theorem foldL_mn (k : IntKind) (a b : Int) : foldL evMin [.int k a, .int k b] = some (.int k (min a b)) := by
  simp only [foldL, foldO, evMin, if_true]
  congr 2
  rw [Int.min_def]
  split <;> split <;> omega
@[go_sem] theorem foldL_mx (k : IntKind) (a b : Int) : foldL evMax [.int k a, .int k b] = some (.int k (max a b)) := by
  simp only [foldL, foldO, evMax, if_true]
  congr 2
  rw [Int.max_def]
  split <;> split <;> omega
def lkR (zero : AV) (ok : Bool) : Option (Option (Nat × AV)) → Option AV
  | some (some (_, v)) => some (if ok then .tup [v, .bool true] else v)
  | some none => some (if ok then .tup [zero, .bool false] else zero)
  | none => none
def lkO (q : KT) (zero : AV) (ok : Bool) (h : H) (k : AV) : Option AObj → Option AV
  | some (.map es) => if keyOk q k then lkR zero ok (findK h q k es 0) else none
  | _ => none
def lkV (q : KT) (zero : AV) (ok : Bool) (h : H) (m k : AV) : Option AV := match m with
  | .nilm => if keyOk q k then some (if ok then .tup [zero, .bool false] else zero) else none
  | .map l => lkO q zero ok h k (h.get l)
  | _ => none
@[go_sem] theorem evQ_lk (q : KT) (zero : AV) (ok : Bool) (m k : X) : evQ U G (.lk q zero ok m k) e h = lkV q zero ok h (m.ev G e) (k.ev G e) := by
  simp only [evQ]
  cases m.ev G e with
  | map l =>
    simp only [lkV]
    cases h.get l with
    | none => rfl
    | some o =>
      cases o with
      | cells => rfl
      | map es =>
        simp only [lkO, lkR]
        split
        · cases findK h q (X.ev G e k) es 0 with
          | none => rfl
          | some r => cases r <;> rfl
        · rfl
  | _ => rfl
@[go_sem] theorem lkV_map (q : KT) (zero : AV) (ok : Bool) (l : Nat) (k : AV) : lkV q zero ok h (.map l) k = lkO q zero ok h k (h.get l) := nr rfl
@[go_sem] theorem lkO_map (q : KT) (zero : AV) (ok : Bool) (k : AV) (es : List (AV × AV)) (hk : keyOk q k = true) : lkO q zero ok h k (some (.map es)) = lkR zero ok (findK h q k es 0) := by simp [lkO, hk]
/-! ### operations that act -/
def newP (c : Bool) (z : List AV) (t : TypeId) (h : H) : Option (AV × H) := if c then some (.ptr h.next 0, h.new (.cells z t (some 0))) else none
@[go_sem] theorem newP_true (z : List AV) (t : TypeId) : newP true z t h = some (.ptr h.next 0, h.new (.cells z t (some 0))) := nr rfl
@[go_sem] theorem evE_new (z : List AV) (t : TypeId) : evE U G (.new z t) e h = newP (z.all (·.leaf)) z t h := by simp only [evE, newP]
@[go_sem] theorem evE_box (n : Nat) (t : TypeId) (x : X) : evE U G (.box n t x) e h = newP ((x.ev G e).elt && (x.ev G e).cells.length == n && (x.ev G e).cells.all (·.leaf)) (x.ev G e).cells t h := by simp only [evE, newP]
def stR (l : Nat) (t : TypeId) (fz : Nat) (h : H) : Option (List AV) → Option (AV × H)
  | some cs => some (.any, h.set l (.cells cs t (some fz)))
  | none => none
def stP (c : Bool) (l : Nat) (t : TypeId) (fz : Nat) (vs cs : List AV) (off : Nat) (h : H) : Option (AV × H) := if c then stR l t fz h (putC vs cs off) else none
def stO (n l off : Nat) (v : AV) (h : H) : Option AObj → Option (AV × H)
  | some (.cells cs t (some fz)) => stP (v.elt && v.cells.length == n && v.cells.all (·.leaf) && Nat.ble fz off) l t fz v.cells cs off h
  | _ => none
def stV (n : Nat) (a v : AV) (h : H) : Option (AV × H) := match a with
  | .ptr l off => stO n l off v h (h.get l)
  | _ => none
@[go_sem] theorem evE_st (n : Nat) (a x : X) : evE U G (.st n a x) e h = stV n (a.ev G e) (x.ev G e) h := by
  simp only [evE]
  cases a.ev G e with
  | ptr l off =>
    simp only [stV]
    cases h.get l with
    | none => rfl
    | some o =>
      cases o with
      | map => rfl
      | cells cs t f =>
        cases f with
        | none => rfl
        | some fz =>
          simp only [stO, stP]
          split
          · simp only [stR]; cases putC (X.ev G e x).cells cs off <;> rfl
          · rfl
  | _ => rfl
@[go_sem] theorem stV_ptr (n l off : Nat) (v : AV) : stV n (.ptr l off) v h = stO n l off v h (h.get l) := nr rfl
@[go_sem] theorem stO_cells (n l off : Nat) (v : AV) (cs : List AV) (t : TypeId) (fz : Nat) : stO n l off v h (some (.cells cs t (some fz))) = stP (v.elt && v.cells.length == n && v.cells.all (·.leaf) && Nat.ble fz off) l t fz v.cells cs off h := nr rfl
@[go_sem] theorem stP_true (l : Nat) (t : TypeId) (fz : Nat) (vs cs : List AV) (off : Nat) : stP true l t fz vs cs off h = stR l t fz h (putC vs cs off) := nr rfl
@[go_sem] theorem stR_some (l : Nat) (t : TypeId) (fz : Nat) (cs : List AV) : stR l t fz h (some cs) = some (.any, h.set l (.cells cs t (some fz))) := nr rfl
@[go_sem] theorem ble_zero (n : Nat) : Nat.ble 0 n = true := by simp
@[go_sem] theorem putC_zero (vs cs : List AV) : putC vs cs 0 = putH cs vs := by cases cs <;> rfl
def consL (c : AV) : Option (List AV) → Option (List AV)
  | some r => some (c :: r)
  | none => none
@[go_sem] theorem consL_some (c : AV) (r : List AV) : consL c (some r) = some (c :: r) := nr rfl
@[go_sem] theorem putC_succ (vs : List AV) (c : AV) (cs : List AV) (n : Nat) : putC vs (c :: cs) (n + 1) = consL c (putC vs cs n) := by simp only [putC]; cases putC vs cs n <;> rfl
@[go_sem] theorem putH_nil (cs : List AV) : putH cs [] = some cs := by cases cs <;> rfl
@[go_sem] theorem putH_cons (c v : AV) (cs vs : List AV) : putH (c :: cs) (v :: vs) = consL v (putH cs vs) := by simp only [putH]; cases putH cs vs <;> rfl
def bslP (c : Bool) (sz n : Nat) (t : TypeId) (h : H) (cs : List AV) : Option (AV × H) := if c then some (.sl h.next 0 sz n n true, h.new (.cells cs t (some 0))) else none
def bslR (c : Bool) (sz n : Nat) (t : TypeId) (h : H) : Option (List AV) → Option (AV × H)
  | some cs => bslP c sz n t h cs
  | none => none
@[go_sem] theorem bslP_true (sz n : Nat) (t : TypeId) (cs : List AV) : bslP true sz n t h cs = some (.sl h.next 0 sz n n true, h.new (.cells cs t (some 0))) := nr rfl
@[go_sem] theorem bslR_some (c : Bool) (sz n : Nat) (t : TypeId) (cs : List AV) : bslR c sz n t h (some cs) = bslP c sz n t h cs := nr rfl
@[go_sem] theorem evE_bsl (sz : Nat) (t : TypeId) (zero : List AV) (n : Nat) (ps : List (Nat × X)) : evE U G (.bsl sz t zero n ps) e h = bslR (zero.length == sz && zero.all (·.leaf)) sz n t h (fillC ((List.replicate n zero).flatten) (evPartsL G e sz ps)) := by
  simp only [evE]
  cases fillC (List.replicate n zero).flatten (evPartsL G e sz ps) with
  | none => rfl
  | some cs => simp only [bslR, bslP, Bool.and_eq_true, beq_iff_eq]
def mkP (c : Bool) (sz n m : Nat) (t : TypeId) (zero : List AV) (h : H) : Option (AV × H) := if c then some (.sl h.next 0 sz n m true, h.new (.cells ((List.replicate m zero).flatten) t (some 0))) else none
def mkSV (sz bytes : Nat) (t : TypeId) (zero : List AV) (a b : AV) (h : H) : Option (AV × H) := match a, b with
  | .int _ n, .int _ c => if 0 ≤ n ∧ n ≤ c ∧ c.toNat * bytes ≤ roomB ∧ zero.length = sz ∧ zero.all (·.leaf) then some (.sl h.next 0 sz n.toNat c.toNat true, h.new (.cells ((List.replicate c.toNat zero).flatten) t (some 0))) else none
  | _, _ => none
@[go_sem] theorem evE_mkS (sz bytes : Nat) (t : TypeId) (zero : List AV) (a b : X) : evE U G (.mkS sz bytes t zero a b) e h = mkSV sz bytes t zero (a.ev G e) (b.ev G e) h := nr rfl
@[go_sem] theorem mkSV_int (sz bytes : Nat) (t : TypeId) (zero : List AV) (k k' : IntKind) (n c : Int) (h1 : 0 ≤ n) (h2 : n ≤ c) (h3 : c.toNat * bytes ≤ 140737488355328) : mkSV sz bytes t zero (.int k n) (.int k' c) h = mkP (zero.length == sz && zero.all (·.leaf)) sz n.toNat c.toNat t zero h := by
  simp only [mkSV, mkP, roomB, h1, h2, h3, true_and, Bool.and_eq_true, beq_iff_eq]
@[go_sem] theorem mkP_true (sz n m : Nat) (t : TypeId) (zero : List AV) : mkP true sz n m t zero h = some (.sl h.next 0 sz n m true, h.new (.cells ((List.replicate m zero).flatten) t (some 0))) := nr rfl
@[go_sem] theorem flat_one (n : Nat) (z : AV) : (List.replicate n [z]).flatten = List.replicate n z := by
  induction n with
  | zero => rfl
  | succ n ih => simp [List.replicate_succ, ih]
theorem putC_one (v : AV) : ∀ (cs : List AV) (k : Nat), putC [v] cs k = if k < cs.length then some (cs.set k v) else none
  | [], 0 => by simp [putC, putH]
  | [], k + 1 => by simp [putC]
  | c :: cs, 0 => by simp [putC, putH]
  | c :: cs, k + 1 => by
    simp only [putC, putC_one v cs k, List.length_cons, List.set_cons_succ]
    by_cases hk : k < cs.length
    · simp [hk]
    · simp [hk]
theorem set_ints (u : List Int) (k : Nat) (x : Int) : (u.map (AV.int .i64)).set k (.int .i64 x) = (u.set k x).map (AV.int .i64) := by simp [List.map_set]
theorem set_bools (u : List Bool) (k : Nat) (x : Bool) : (u.map AV.bool).set k (.bool x) = (u.set k x).map AV.bool := by simp [List.map_set]
@[go_sem] theorem evE_mkM : evE U G .mkM e h = some (.map h.next, h.new (.map [])) := nr rfl
def apR (U : List (TypeId × TypeId)) (sz bytes : Nat) (t : TypeId) (s : AV) (h : H) : Option (Nat × List AV) → Option (AV × H)
  | some (m, news) => evApp U sz bytes t s m news h
  | none => none
@[go_sem] theorem apR_some (sz bytes m : Nat) (t : TypeId) (s : AV) (news : List AV) : apR U sz bytes t s h (some (m, news)) = evApp U sz bytes t s m news h := nr rfl
@[go_sem] theorem evE_ap (sz bytes : Nat) (t : TypeId) (s x : X) : evE U G (.ap sz bytes t s x) e h = apR U sz bytes t (s.ev G e) h (srcOf h sz (x.ev G e)) := by
  simp only [evE]
  cases srcOf h sz (X.ev G e x) <;> rfl
def srcO (sz off len : Nat) : Option AObj → Option (Nat × List AV)
  | some (.cells cs _ _) => match sub cs off (len * sz) with
    | some r => some (len, r)
    | none => none
  | _ => none
@[go_sem] theorem srcOf_nils (sz : Nat) : srcOf h sz .nils = some (0, []) := nr rfl
@[go_sem] theorem srcOf_sl (l off sz len cap : Nat) (ex : Bool) : srcOf h sz (.sl l off sz len cap ex) = srcO sz off len (h.get l) := by
  simp only [srcOf, if_true, srcO]
  cases h.get l with
  | none => rfl
  | some o => cases o <;> rfl
@[go_sem] theorem srcOf_fsl (f : Bool) (sz : Nat) (es : List AV) : srcOf h sz (.fsl f sz es) = some (es.length, es.flatMap (·.cells)) := by simp [srcOf]
theorem srcO_all (sz len : Nat) (cs : List AV) (t : TypeId) (f : Option Nat) (hl : cs.length = len * sz) : srcO sz 0 len (some (.cells cs t f)) = some (len, cs) := by
  simp only [srcO, sub, List.drop_zero, ← hl, List.take_length, if_true]
theorem srcO_1 (sz : Nat) (cs : List AV) (t : TypeId) (f : Option Nat) (hl : cs.length = sz) : srcO sz 0 1 (some (.cells cs t f)) = some (1, cs) := srcO_all sz 1 cs t f (by omega)
@[go_sem] theorem srcO_l1 (a0 : AV) (t : TypeId) (f : Option Nat) : srcO 1 0 1 (some (.cells [a0] t f)) = some (1, [a0]) := nr rfl
@[go_sem] theorem srcO_l2 (a0 a1 : AV) (t : TypeId) (f : Option Nat) : srcO 2 0 1 (some (.cells [a0, a1] t f)) = some (1, [a0, a1]) := nr rfl
@[go_sem] theorem srcO_l3 (a0 a1 a2 : AV) (t : TypeId) (f : Option Nat) : srcO 3 0 1 (some (.cells [a0, a1, a2] t f)) = some (1, [a0, a1, a2]) := nr rfl
@[go_sem] theorem srcO_l4 (a0 a1 a2 a3 : AV) (t : TypeId) (f : Option Nat) : srcO 4 0 1 (some (.cells [a0, a1, a2, a3] t f)) = some (1, [a0, a1, a2, a3]) := nr rfl
@[go_sem] theorem srcO_l5 (a0 a1 a2 a3 a4 : AV) (t : TypeId) (f : Option Nat) : srcO 5 0 1 (some (.cells [a0, a1, a2, a3, a4] t f)) = some (1, [a0, a1, a2, a3, a4]) := nr rfl
@[go_sem] theorem srcO_l6 (a0 a1 a2 a3 a4 a5 : AV) (t : TypeId) (f : Option Nat) : srcO 6 0 1 (some (.cells [a0, a1, a2, a3, a4, a5] t f)) = some (1, [a0, a1, a2, a3, a4, a5]) := nr rfl
@[go_sem] theorem srcO_l7 (a0 a1 a2 a3 a4 a5 a6 : AV) (t : TypeId) (f : Option Nat) : srcO 7 0 1 (some (.cells [a0, a1, a2, a3, a4, a5, a6] t f)) = some (1, [a0, a1, a2, a3, a4, a5, a6]) := nr rfl
@[go_sem] theorem evE_apS (bytes : Nat) (t : TypeId) (s x : X) : evE U G (.apS bytes t s x) e h = (match x.ev G e with
    | .str b => evApp U 1 bytes t (s.ev G e) b.length (b.map fun n : Nat => .int .u8 n) h
    | _ => none) := rfl
@[go_sem] theorem evE_cvS (t : TypeId) (x : X) : evE U G (.cvS t x) e h = (match x.ev G e with
    | .str s => some (.sl h.next 0 1 s.length s.length false, h.new (.cells (s.map fun n : Nat => .int .u8 n) t none))
    | _ => none) := rfl
def upR (l : Nat) (k v : AV) (es : List (AV × AV)) (h : H) : Option (Option (Nat × AV)) → Option (AV × H)
  | some (some (i, _)) => some (.any, h.set l (.map (setK k v es i)))
  | some none => some (.any, h.set l (.map (es ++ [(k, v)])))
  | none => none
def upO (q : KT) (l : Nat) (k v : AV) (h : H) : Option AObj → Option (AV × H)
  | some (.map es) => if keyOk q k then upR l k v es h (findK h q k es 0) else none
  | _ => none
def upV (q : KT) (m k v : AV) (h : H) : Option (AV × H) := match m with
  | .map l => upO q l k v h (h.get l)
  | _ => none
@[go_sem] theorem evE_up (q : KT) (m k x : X) : evE U G (.up q m k x) e h = upV q (m.ev G e) (k.ev G e) (x.ev G e) h := by
  simp only [evE]
  cases m.ev G e with
  | map l =>
    simp only [upV]
    cases h.get l with
    | none => rfl
    | some o =>
      cases o with
      | cells => rfl
      | map es =>
        simp only [upO, upR]
        split
        · cases findK h q (X.ev G e k) es 0 with
          | none => rfl
          | some r => cases r <;> rfl
        · rfl
  | _ => rfl
@[go_sem] theorem upV_map (q : KT) (l : Nat) (k v : AV) : upV q (.map l) k v h = upO q l k v h (h.get l) := nr rfl
@[go_sem] theorem upO_map (q : KT) (l : Nat) (k v : AV) (es : List (AV × AV)) (hk : keyOk q k = true) : upO q l k v h (some (.map es)) = upR l k v es h (findK h q k es 0) := by simp [upO, hk]
@[go_sem] theorem upR_old (l : Nat) (k v : AV) (es : List (AV × AV)) (i : Nat) (u : AV) : upR l k v es h (some (some (i, u))) = some (.any, h.set l (.map (setK k v es i))) := nr rfl
@[go_sem] theorem upR_new (l : Nat) (k v : AV) (es : List (AV × AV)) : upR l k v es h (some none) = some (.any, h.set l (.map (es ++ [(k, v)]))) := nr rfl
/-! ### the heap -/
def H.add (h : H) (n : Nat) (o : AObj) : H := ⟨n + 1, T.set (n + 1) h.t n (some o)⟩
@[go_sem] theorem H.new_add (o : AObj) : h.new o = h.add h.next o := nr rfl
@[go_sem] theorem H.next_add (n : Nat) (o : AObj) : (h.add n o).next = n + 1 := nr rfl
theorem H.get_add (n j : Nat) (o : AObj) : (h.add n o).get j = if j = n then some o else h.get j := T.get_set _ _ _ _ _ _ (lt_two_pow n) (lt_two_pow j)
@[go_sem] theorem H.get_add_eq (n j : Nat) (o : AObj) (hj : j = n) : (h.add n o).get j = some o := by rw [H.get_add, if_pos hj]
@[go_sem] theorem H.get_add_ne (n j : Nat) (o : AObj) (hj : ¬ j = n) : (h.add n o).get j = h.get j := by rw [H.get_add, if_neg hj]
@[go_sem] theorem H.next_set' (l : Nat) (o : AObj) : (h.set l o).next = h.next := nr rfl
@[go_sem] theorem H.next_del' (l : Nat) : (h.del l).next = h.next := nr rfl
theorem H.get_new_eq (j : Nat) (o : AObj) (hj : j = h.next) : (h.new o).get j = some o := by rw [H.get_new, if_pos hj]
theorem H.get_new_ne (j : Nat) (o : AObj) (hj : ¬ j = h.next) : (h.new o).get j = h.get j := by rw [H.get_new, if_neg hj]
@[go_sem] theorem H.get_set_eq (j l : Nat) (o : AObj) (hj : j = l) : (h.set l o).get j = some o := by rw [H.get_set, if_pos hj]
@[go_sem] theorem H.get_set_ne (j l : Nat) (o : AObj) (hj : ¬ j = l) : (h.set l o).get j = h.get j := by rw [H.get_set, if_neg hj]
@[go_sem] theorem H.get_del_ne (j l : Nat) (hj : ¬ j = l) : (h.del l).get j = h.get j := by rw [H.get_del, if_neg hj]
@[go_sem] theorem H.get_mk (n j : Nat) : (⟨n, h.t⟩ : H).get j = h.get j := nr rfl
@[go_sem] theorem H.next_mk (n : Nat) (t : T) : (⟨n, t⟩ : H).next = n := nr rfl
@[go_sem] theorem ahead_nil (b : Nat) : ahead b [] h = h := nr rfl
@[go_sem] theorem ahead_new (b i m : Nat) (d : Option Nat) (g : Option (Nat × Bool)) (z : List AV) (t : TypeId) (l : List (Nat × O × Nat)) : ahead b ((i, ⟨d, .new z t, g⟩, m) :: l) h = (ahead b l h).set (b + i) (.cells z t (some 0)) := nr rfl
end
/-! ### freezing -/
section
variable {p : Nat → Bool} {h : H} {d : Nat}
@[go_sem] theorem fz_any : fz p h (d + 1) .any = some .any := by simp only [fz]
@[go_sem] theorem fz_bool (b : Bool) : fz p h (d + 1) (.bool b) = some (.bool b) := by simp only [fz]
@[go_sem] theorem fz_int (k : IntKind) (n : Int) : fz p h (d + 1) (.int k n) = some (.int k n) := by simp only [fz]
@[go_sem] theorem fz_str (b : List Nat) : fz p h (d + 1) (.str b) = some (.str b) := by simp only [fz]
@[go_sem] theorem fz_nilp : fz p h (d + 1) .nilp = some .nilp := by simp only [fz]
@[go_sem] theorem fz_nils : fz p h (d + 1) .nils = some .nils := by simp only [fz]
@[go_sem] theorem fz_nilm : fz p h (d + 1) .nilm = some .nilm := by simp only [fz]
@[go_sem] theorem fz_nilf : fz p h (d + 1) .nilf = some .nilf := by simp only [fz]
@[go_sem] theorem fz_nili : fz p h (d + 1) .nili = some .nili := by simp only [fz]
def mapA (f : List AV → AV) : Option (List AV) → Option AV
  | some r => some (f r)
  | none => none
@[go_sem] theorem mapA_some (f : List AV → AV) (r : List AV) : mapA f (some r) = some (f r) := nr rfl
def fzS (p : Nat → Bool) (h : H) (d sz off len cap : Nat) (ex : Bool) : Option AObj → Option AV
  | some (.cells cs _ _) => match sub cs off (len * sz) with
    | some r => mapA (fun r => .fsl (ex && cap == len) sz (chunks sz len r)) (fzL p h d r)
    | none => none
  | _ => none
@[go_sem] theorem fz_sl (l off sz len cap : Nat) (ex : Bool) : fz p h (d + 1) (.sl l off sz len cap ex) = if p l = true then some (.sl l off sz len cap ex) else fzS p h d sz off len cap ex (h.get l) := by
  simp only [fz]
  split <;> rfl
@[go_sem] theorem fz_map (l : Nat) : fz p h (d + 1) (.map l) = if p l = true then some (.map l) else none := by simp only [fz]
def fzP (p : Nat → Bool) (h : H) (d off : Nat) : Option AObj → Option AV
  | some (.cells cs _ _) => mapA .fptr (fzL p h d (cs.drop off))
  | _ => none
@[go_sem] theorem fz_ptr (l off : Nat) : fz p h (d + 1) (.ptr l off) = if p l = true then some (.ptr l off) else fzP p h d off (h.get l) := by
  simp only [fz]
  split <;> rfl
@[go_sem] theorem fzP_cells (off : Nat) (cs : List AV) (t : TypeId) (f : Option Nat) : fzP p h d off (some (.cells cs t f)) = mapA .fptr (fzL p h d (cs.drop off)) := nr rfl
@[go_sem] theorem fz_fptr (cs : List AV) : fz p h (d + 1) (.fptr cs) = if AV.clL p cs = true then some (.fptr cs) else none := by simp only [fz]
@[go_sem] theorem fz_fsl (f : Bool) (z : Nat) (es : List AV) : fz p h (d + 1) (.fsl f z es) = if AV.clL p es = true then some (.fsl f z es) else none := by simp only [fz]
@[go_sem] theorem fz_agg (cs : List AV) : fz p h (d + 1) (.agg cs) = mapA .agg (fzL p h d cs) := by simp only [fz]; cases fzL p h d cs <;> rfl
@[go_sem] theorem fz_tup (cs : List AV) : fz p h (d + 1) (.tup cs) = mapA .tup (fzL p h d cs) := by simp only [fz]; cases fzL p h d cs <;> rfl
def mapI (t : TypeId) : Option AV → Option AV
  | some r => some (.iface t r)
  | none => none
@[go_sem] theorem mapI_some (t : TypeId) (r : AV) : mapI t (some r) = some (.iface t r) := nr rfl
@[go_sem] theorem fz_iface (t : TypeId) (v : AV) : fz p h (d + 1) (.iface t v) = mapI t (fz p h d v) := by simp only [fz]; cases fz p h d v <;> rfl
@[go_sem] theorem fzL_nil : fzL p h (d + 1) [] = some [] := by simp only [fzL]
@[go_sem] theorem fzL_cons (c : AV) (cs : List AV) : fzL p h (d + 1) (c :: cs) = consO (fz p h d c) (fzL p h (d + 1) cs) := by
  simp only [fzL]
  cases fz p h d c <;> cases fzL p h (d + 1) cs <;> rfl
attribute [go_sem] AV.cl AV.clL
theorem fzL_closed : ∀ {d : Nat} {cs : List AV}, (∀ c ∈ cs, ∀ d, fz p h (d + 1) c = some c) → fzL p h (d + 2) cs = some cs
  | d, [], _ => by simp only [fzL]
  | d, c :: cs, hc => by
    rw [fzL_cons, hc c List.mem_cons_self d, fzL_closed fun x hx => hc x (List.mem_cons_of_mem _ hx)]
    rfl
theorem clL_of {cs : List AV} (hc : ∀ c ∈ cs, c.cl p = true) : AV.clL p cs = true := by
  induction cs with
  | nil => rfl
  | cons c cs ih => simp only [AV.clL, hc c List.mem_cons_self, ih fun x hx => hc x (List.mem_cons_of_mem _ hx), Bool.and_self]
@[go_sem] theorem clL_map {α : Type} (f : α → AV) (l : List α) (hc : ∀ a, (f a).cl p = true) : AV.clL p (l.map f) = true := clL_of fun c h => by
  obtain ⟨a, _, rfl⟩ := List.mem_map.1 h
  exact hc a
end
section
variable {P : Program} {U : List (TypeId × TypeId)} {G : Nat → AV}
def PureV (P : Program) (U : List (TypeId × TypeId)) (G : Nat → AV) (f : FuncId) (xs : List AV) (v : AV) : Prop := ∀ h, Spec P U G f xs h fun v' h' => v' = v ∧ h' = h
theorem PureV.of {f : FuncId} {xs : List AV} (d : Nat) {v : AV} (hx : AV.clL (fun _ => false) xs = true) (hGc : ∀ g, (G g).cl (fun _ => false) = true)
    (hs : ∀ h0 : H, Spec P U G f xs h0 fun v0 h1 => fz (fun _ => false) h1 d v0 = some v) : PureV P U G f xs v :=
  Pure.of (Q := fun v' => v' = v) d hx hGc fun h0 => (hs h0).mono fun v0 h1 k => ⟨v, v, k, Le.refl _, rfl⟩
theorem PureV.pure {f : FuncId} {xs : List AV} {v : AV} (hs : PureV P U G f xs v) : Pure P U G f xs fun v' => v' = v := hs
variable {rs : List RV} {Ψ : AV → H → Prop} {e : Env} {h : H} {lv : List Nat} {k : List Fr} {l : List O} {B : Nat} {dl : List (Nat × O × Nat)} {ps : List Pd}
theorem bC_v {f : FuncId} {xs : List AV} {d : Option Nat} {v : AV} (hs : PureV P U G f xs v) (hk : Rg P U G rs Ψ l (e.put d v) h lv k) : bC P U G rs Ψ f xs d l e h lv k := bC_pure hs fun v' hv => by rw [hv]; exact hk
theorem dC_v {f : FuncId} {xs : List AV} {m : Nat} {d : Option Nat} {v : AV} (hs : PureV P U G f xs v) (hk : Rd P U G rs Ψ B dl (still m ps) (e.put d v) h lv k) : dC P U G rs Ψ B f xs m d dl ps e h lv k := dC_pure hs fun v' hv => by rw [hv]; exact hk
theorem Br_both {p : Prop} {dp : Decidable p} {c d : S} (h1 : p → Go P U G rs Ψ c e h k) (h2 : ¬ p → Go P U G rs Ψ d e h k) : Br P U G rs Ψ (decide p) c d e h k := Br_dec h1 h2
theorem bG_dec {p : Prop} {dp : Decidable p} {b : Bool} {i : I} {d : Option Nat} (h1 : p → bG P U G rs Ψ (.bool true) b i d l e h lv k) (h2 : ¬ p → bG P U G rs Ψ (.bool false) b i d l e h lv k) : bG P U G rs Ψ (.bool (decide p)) b i d l e h lv k := by
  by_cases hp : p
  · rw [decide_eq_true hp]; exact h1 hp
  · rw [decide_eq_false hp]; exact h2 hp
theorem bG_bool' {c b : Bool} {i : I} {d : Option Nat} (h1 : c = true → bG P U G rs Ψ (.bool true) b i d l e h lv k) (h2 : c = false → bG P U G rs Ψ (.bool false) b i d l e h lv k) : bG P U G rs Ψ (.bool c) b i d l e h lv k := by
  cases c
  · exact h2 rfl
  · exact h1 rfl
theorem dG_dec {p : Prop} {dp : Decidable p} {b : Bool} {j m : Nat} {i : I} {d : Option Nat} (h1 : p → dG P U G rs Ψ B (.bool true) b j i m d dl ps e h lv k) (h2 : ¬ p → dG P U G rs Ψ B (.bool false) b j i m d dl ps e h lv k) : dG P U G rs Ψ B (.bool (decide p)) b j i m d dl ps e h lv k := by
  by_cases hp : p
  · rw [decide_eq_true hp]; exact h1 hp
  · rw [decide_eq_false hp]; exact h2 hp
theorem dG_bool' {c b : Bool} {j m : Nat} {i : I} {d : Option Nat} (h1 : c = true → dG P U G rs Ψ B (.bool true) b j i m d dl ps e h lv k) (h2 : c = false → dG P U G rs Ψ B (.bool false) b j i m d dl ps e h lv k) : dG P U G rs Ψ B (.bool c) b j i m d dl ps e h lv k := by
  cases c
  · exact h2 rfl
  · exact h1 rfl
end
end Go.Eng
