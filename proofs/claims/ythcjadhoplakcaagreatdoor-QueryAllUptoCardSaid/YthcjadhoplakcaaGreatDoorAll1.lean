/- The law QueryAll of package grommetlaw24 answers true and turns no argument, for all arguments that are together of bulk at most 1048576; condition: the listed package variables start as the program's text lays them. (part 1.) -/
import Derived.Orders
import Derived.Deep.AppendSrc
import Derived.Lib.FrozenHead
set_option linter.unusedSimpArgs false
set_option linter.unusedVariables false
namespace Go.Eng
inductive AV where
  | any
  | bool (b : Bool)
  | int (k : IntKind) (n : Int)
  | str (s : List Nat)
  | nilp | nils | nilm | nilf | nili
  | ptr (l off : Nat)
  | fptr (cs : List AV)
  | sl (l off sz len cap : Nat) (ex : Bool)
  | fsl (full : Bool) (sz : Nat) (es : List AV)
  | map (l : Nat)
  | fn (f : FuncId) (first captured : List AV)
  | iface (t : TypeId) (v : AV)
  | agg (cs : List AV)
  | tup (vs : List AV)
  deriving Inhabited
def AV.leaf : AV → Bool
  | .agg _ | .tup _ | .any => false
  | _ => true
def AV.elt : AV → Bool
  | .tup _ | .any => false
  | _ => true
def AV.cells : AV → List AV
  | .agg cs => cs
  | v => [v]
inductive AObj where
  | cells (cs : List AV) (e : TypeId) (fz : Option Nat)
  | map (es : List (AV × AV))
  deriving Inhabited
inductive T where
  | nil
  | node (l : T) (o : Option AObj) (r : T)
  deriving Inhabited
def T.get : Nat → T → Nat → Option AObj
  | 0, _, _ => none
  | _ + 1, .nil, _ => none
  | d + 1, .node l o r, k => if k = 0 then o else if k % 2 = 0 then T.get d r (k / 2 - 1) else T.get d l (k / 2)
def T.set : Nat → T → Nat → Option AObj → T
  | 0, t, _, _ => t
  | d + 1, .nil, k, v => if k = 0 then .node .nil v .nil else if k % 2 = 0 then .node .nil none (T.set d .nil (k / 2 - 1) v) else .node (T.set d .nil (k / 2) v) none .nil
  | d + 1, .node l o r, k, v => if k = 0 then .node l v r else if k % 2 = 0 then .node l o (T.set d r (k / 2 - 1) v) else .node (T.set d l (k / 2) v) o r
theorem T.get_nil (d k : Nat) : T.get d .nil k = none := by cases d <;> rfl
theorem T.get_set (d : Nat) : ∀ (e : Nat) (t : T) (k j : Nat) (v : Option AObj), k < 2 ^ d - 1 → j < 2 ^ e - 1 → T.get e (T.set d t k v) j = if j = k then v else T.get e t j := by
  induction d with
  | zero => intro e t k j v h; simp at h
  | succ d ih =>
    intro e t k j v h he
    cases e with
    | zero => simp at he
    | succ e =>
    have hp : 2 ^ (d + 1) = 2 * 2 ^ d := by rw [Nat.pow_succ]; omega
    have hq : 2 ^ (e + 1) = 2 * 2 ^ e := by rw [Nat.pow_succ]; omega
    have h1 : k ≠ 0 → k % 2 = 0 → k / 2 - 1 < 2 ^ d - 1 := by omega
    have h2 : k % 2 = 1 → k / 2 < 2 ^ d - 1 := by omega
    have h3 : j ≠ 0 → j % 2 = 0 → j / 2 - 1 < 2 ^ e - 1 := by omega
    have h4 : j % 2 = 1 → j / 2 < 2 ^ e - 1 := by omega
    by_cases hk0 : k = 0
    · subst hk0
      cases t with
      | nil =>
        by_cases hj : j = 0
        · subst hj; simp [T.set, T.get]
        · simp [T.set, T.get, hj, T.get_nil]
      | node l o r =>
        by_cases hj : j = 0
        · subst hj; simp [T.set, T.get]
        · simp [T.set, T.get, hj]
    · by_cases hk2 : k % 2 = 0
      · have hlt := h1 hk0 hk2
        cases t with
        | nil =>
          by_cases hj : j = 0
          · subst hj; simp [T.set, T.get, hk0, hk2, Ne.symm hk0]
          · by_cases hj2 : j % 2 = 0
            · simp only [T.set, hk0, hk2, if_false, if_true, T.get, hj, hj2, ih _ _ _ _ _ hlt (h3 hj hj2), T.get_nil]
              by_cases e : j = k
              · subst e; simp
              · rw [if_neg e, if_neg (by omega)]
            · have : j ≠ k := by omega
              simp [T.set, hk0, hk2, T.get, hj, hj2, T.get_nil, this]
        | node l o r =>
          by_cases hj : j = 0
          · subst hj; simp [T.set, T.get, hk0, hk2, Ne.symm hk0]
          · by_cases hj2 : j % 2 = 0
            · simp only [T.set, hk0, hk2, if_false, if_true, T.get, hj, hj2, ih _ _ _ _ _ hlt (h3 hj hj2)]
              by_cases e : j = k
              · subst e; simp
              · rw [if_neg e, if_neg (by omega)]
            · have : j ≠ k := by omega
              simp [T.set, hk0, hk2, T.get, hj, hj2, this]
      · have hk1 : k % 2 = 1 := by omega
        have hlt := h2 hk1
        cases t with
        | nil =>
          by_cases hj : j = 0
          · subst hj; simp [T.set, T.get, hk0, hk2, Ne.symm hk0]
          · by_cases hj2 : j % 2 = 0
            · have : j ≠ k := by omega
              simp [T.set, hk0, hk2, T.get, hj, hj2, T.get_nil, this]
            · simp only [T.set, hk0, hk2, if_false, T.get, hj, hj2, ih _ _ _ _ _ hlt (h4 (by omega)), T.get_nil]
              by_cases e : j = k
              · subst e; simp
              · rw [if_neg e, if_neg (by omega)]
        | node l o r =>
          by_cases hj : j = 0
          · subst hj; simp [T.set, T.get, hk0, hk2, Ne.symm hk0]
          · by_cases hj2 : j % 2 = 0
            · have : j ≠ k := by omega
              simp [T.set, hk0, hk2, T.get, hj, hj2, this]
            · simp only [T.set, hk0, hk2, if_false, T.get, hj, hj2, ih _ _ _ _ _ hlt (h4 (by omega))]
              by_cases e : j = k
              · subst e; simp
              · rw [if_neg e, if_neg (by omega)]
structure H where
  next : Nat
  t : T
  deriving Inhabited
theorem lt_two_pow (n : Nat) : n < 2 ^ (n + 1) - 1 := by
  have := @Nat.lt_two_pow_self n
  rw [Nat.pow_succ]
  omega
def H.get (h : H) (l : Nat) : Option AObj := T.get (l + 1) h.t l
def H.put (h : H) (l : Nat) (o : Option AObj) : H := ⟨h.next, T.set (l + 1) h.t l o⟩
def H.set (h : H) (l : Nat) (o : AObj) : H := h.put l (some o)
def H.del (h : H) (l : Nat) : H := h.put l none
def H.new (h : H) (o : AObj) : H := ⟨h.next + 1, T.set (h.next + 1) h.t h.next (some o)⟩
theorem H.get_put (h : H) (l j : Nat) (o : Option AObj) : (h.put l o).get j = if j = l then o else h.get j := T.get_set _ _ _ _ _ _ (lt_two_pow l) (lt_two_pow j)
theorem H.get_set (h : H) (l j : Nat) (o : AObj) : (h.set l o).get j = if j = l then some o else h.get j := H.get_put h l j _
theorem H.get_del (h : H) (l j : Nat) : (h.del l).get j = if j = l then none else h.get j := H.get_put h l j _
theorem H.get_new (h : H) (j : Nat) (o : AObj) : (h.new o).get j = if j = h.next then some o else h.get j := T.get_set _ _ _ _ _ _ (lt_two_pow h.next) (lt_two_pow j)
theorem H.next_put (h : H) (l : Nat) (o : Option AObj) : (h.put l o).next = h.next := rfl
theorem H.next_set (h : H) (l : Nat) (o : AObj) : (h.set l o).next = h.next := rfl
theorem H.next_del (h : H) (l : Nat) : (h.del l).next = h.next := rfl
theorem H.next_new (h : H) (o : AObj) : (h.new o).next = h.next + 1 := rfl
structure St where
  ρ : Nat → Option (Nat × Nat × Nat)
  F : Nat → Prop
  U : List (TypeId × TypeId)
  n : Nat
def Holds (w : World) (a : Addr) (vs : List Value) : Prop := ∀ j v, vs[j]? = some v → w.cell? (a.add j) = some v
mutual
def VR (s : St) (w : World) : AV → Value → Prop
  | .any, _ => True
  | .bool b, v => v = .bool b
  | .int k n, v => v = .int k n
  | .str l, v => ∃ b : ByteArray, v = .string b ∧ b.data.toList.map UInt8.toNat = l
  | .nilp, v => v = .pointer none
  | .nils, v => v = .slice none 0 0
  | .nilm, v => v = .map none
  | .nilf, v => v = .nilFunc
  | .nili, v => v = .nilIface
  | .ptr l off, v => ∃ b d m, s.ρ l = some (b, d, m) ∧ v = .pointer (some ⟨b, d + off, none⟩)
  | .fptr cs, v => ∃ a rs, v = .pointer (some a) ∧ VRs s w cs rs ∧ Holds w a rs ∧ s.F a.block ∧ a.block < w.heap.size ∧ a.spot = none ∧ ∀ c ∈ cs, c.leaf = true
  | .sl l off sz len cap ex, v => ∃ b d m ad c, s.ρ l = some (b, d, m) ∧ v = .slice (some ad) len c ∧ len ≤ cap ∧
      ((ad = ⟨b, d + off, none⟩ ∧ cap ≤ c ∧ (ex = true → c = cap) ∧ off + c * sz ≤ m) ∨ (len = 0 ∧ c = 0 ∧ cap = 0 ∧ ex = false))
  | .fsl full sz es, v => ∃ A c, v = .slice A es.length c ∧ es.length ≤ c ∧ (full = true → c = es.length) ∧
      (es = [] ∨ ∃ a rs, A = some a ∧ VRs s w es rs ∧ s.F a.block ∧ a.block < w.heap.size ∧ a.spot = none ∧ (∀ e ∈ es, e.elt = true) ∧ ∀ i r, rs[i]? = some r → r.cells.size = sz ∧ Holds w (a.add (i * sz)) r.cells.toList)
  | .map l, v => ∃ b d m, s.ρ l = some (b, d, m) ∧ v = .map (some b)
  | .fn f first cap, v => ∃ vs us, v = .func (.func f) vs us ∧ VRs s w first vs.toList ∧ VRs s w cap us.toList
  | .iface t x, v => ∃ y, v = .iface t y ∧ VR s w x y
  | .agg cs, v => ∃ vs, v = .agg vs ∧ VRs s w cs vs.toList ∧ ∀ c ∈ cs, c.leaf = true
  | .tup cs, v => ∃ vs, v = .tuple vs ∧ VRs s w cs vs.toList
def VRs (s : St) (w : World) : List AV → List Value → Prop
  | [], rs => rs = []
  | c :: cs, rs => ∃ r rs', rs = r :: rs' ∧ VR s w c r ∧ VRs s w cs rs'
end
theorem VRs_length {s : St} {w : World} : ∀ {cs : List AV} {rs : List Value}, VRs s w cs rs → rs.length = cs.length
  | [], rs, h => by simp only [VRs] at h; subst h; rfl
  | c :: cs, rs, h => by simp only [VRs] at h; obtain ⟨r, rs', rfl, _, h⟩ := h; simp [VRs_length h]
theorem VRs_get {s : St} {w : World} : ∀ {cs : List AV} {rs : List Value}, VRs s w cs rs → ∀ {i : Nat} {c : AV}, cs[i]? = some c → ∃ r, rs[i]? = some r ∧ VR s w c r
  | [], rs, _, i, c, hi => by simp at hi
  | c0 :: cs, rs, h, i, c, hi => by
    simp only [VRs] at h
    obtain ⟨r, rs', rfl, h0, h⟩ := h
    cases i with
    | zero => simp at hi; subst hi; exact ⟨r, rfl, h0⟩
    | succ i => simp at hi; obtain ⟨r', hr, hv⟩ := VRs_get h hi; exact ⟨r', by simpa using hr, hv⟩
theorem VRs_get' {s : St} {w : World} {cs : List AV} {rs : List Value} (h : VRs s w cs rs) {i : Nat} {r : Value} (hr : rs[i]? = some r) : ∃ c, cs[i]? = some c ∧ VR s w c r := by
  have hl := VRs_length h
  have hi : i < cs.length := by have := (List.getElem?_eq_some_iff.1 hr).1; omega
  obtain ⟨r', hr', hv⟩ := VRs_get h (List.getElem?_eq_getElem hi)
  rw [hr] at hr'
  injection hr' with e
  exact ⟨cs[i], List.getElem?_eq_getElem hi, e ▸ hv⟩
theorem VRs_of {s : St} {w : World} : ∀ {cs : List AV} {rs : List Value}, rs.length = cs.length → (∀ (i : Nat) (c : AV) (r : Value), cs[i]? = some c → rs[i]? = some r → VR s w c r) → VRs s w cs rs
  | [], rs, hl, _ => by simp only [VRs]; exact List.eq_nil_of_length_eq_zero hl
  | c :: cs, [], hl, _ => by simp at hl
  | c :: cs, r :: rs, hl, h => by
    simp only [VRs]
    exact ⟨r, rs, rfl, h 0 c r rfl rfl, VRs_of (by simpa using hl) fun i c' r' hc hr => h (i + 1) c' r' (by simpa using hc) (by simpa using hr)⟩
theorem VRs_append {s : St} {w : World} {cs ds : List AV} {rs us : List Value} (h : VRs s w cs rs) (k : VRs s w ds us) : VRs s w (cs ++ ds) (rs ++ us) := by
  have hl := VRs_length h
  have kl := VRs_length k
  refine VRs_of (by simp [hl, kl]) fun i c r hc hr => ?_
  by_cases hi : i < cs.length
  · rw [List.getElem?_append_left hi] at hc
    rw [List.getElem?_append_left (by omega)] at hr
    obtain ⟨r', hr', hv⟩ := VRs_get h hc
    rw [hr] at hr'; injection hr' with e; exact e ▸ hv
  · rw [List.getElem?_append_right (by omega)] at hc
    rw [List.getElem?_append_right (by omega), hl] at hr
    obtain ⟨r', hr', hv⟩ := VRs_get k hc
    rw [hr] at hr'; injection hr' with e; exact e ▸ hv
theorem VRs_take {s : St} {w : World} {cs : List AV} {rs : List Value} (h : VRs s w cs rs) (n : Nat) : VRs s w (cs.take n) (rs.take n) := by
  have hl := VRs_length h
  refine VRs_of (by simp [hl]) fun i c r hc hr => ?_
  rw [List.getElem?_take] at hc hr
  split at hc
  · rename_i hlt
    rw [if_pos hlt] at hr
    obtain ⟨r', hr', hv⟩ := VRs_get h hc
    rw [hr] at hr'; injection hr' with e; exact e ▸ hv
  · cases hc
theorem VRs_drop {s : St} {w : World} {cs : List AV} {rs : List Value} (h : VRs s w cs rs) (n : Nat) : VRs s w (cs.drop n) (rs.drop n) := by
  have hl := VRs_length h
  refine VRs_of (by simp [hl]) fun i c r hc hr => ?_
  rw [List.getElem?_drop] at hc hr
  obtain ⟨r', hr', hv⟩ := VRs_get h hc
  rw [hr] at hr'; injection hr' with e; exact e ▸ hv
theorem VR_oneCell {s : St} {w : World} {v : AV} {r : Value} (h : VR s w v r) (hl : v.leaf = true) : r.oneCell' = true := by
  cases v with
  | any => cases hl
  | agg cs => cases hl
  | tup cs => cases hl
  | bool b => simp only [VR] at h; subst h; rfl
  | int k n => simp only [VR] at h; subst h; rfl
  | nilp => simp only [VR] at h; subst h; rfl
  | nils => simp only [VR] at h; subst h; rfl
  | nilm => simp only [VR] at h; subst h; rfl
  | nilf => simp only [VR] at h; subst h; rfl
  | nili => simp only [VR] at h; subst h; rfl
  | str l => simp only [VR] at h; obtain ⟨b, rfl, _⟩ := h; rfl
  | ptr l off => simp only [VR] at h; obtain ⟨b, d, m, _, rfl⟩ := h; rfl
  | fptr cs => simp only [VR] at h; obtain ⟨a, rs, rfl, _⟩ := h; rfl
  | sl l off sz len cap ex => simp only [VR] at h; obtain ⟨b, d, m, ad, c, _, rfl, _⟩ := h; rfl
  | fsl full sz es => simp only [VR] at h; obtain ⟨A, c, rfl, _⟩ := h; rfl
  | map l => simp only [VR] at h; obtain ⟨b, d, m, _, rfl⟩ := h; rfl
  | fn f a b => simp only [VR] at h; obtain ⟨vs, us, rfl, _⟩ := h; rfl
  | iface t x => simp only [VR] at h; obtain ⟨y, rfl, _⟩ := h; rfl
theorem VR_cells {s : St} {w : World} {v : AV} {r : Value} (h : VR s w v r) (hl : v.elt = true) : VRs s w v.cells r.cells.toList ∧ ∀ c ∈ v.cells, c.leaf = true := by
  have hl : v.leaf = true ∨ ∃ cs, v = .agg cs := by
    cases v <;> first | (exact Or.inl rfl) | (cases hl; done) | (exact Or.inr ⟨_, rfl⟩)
  rcases hl with hl | ⟨cs, rfl⟩
  · have h1 := VR_oneCell h hl
    have hc : v.cells = [v] := by cases v <;> first | rfl | cases hl
    have hr : r.cells.toList = [r] := by cases r <;> first | rfl | cases h1
    rw [hc, hr]
    exact ⟨by simp only [VRs]; exact ⟨r, [], rfl, h, rfl⟩, by simp [hl]⟩
  · simp only [VR] at h
    obtain ⟨vs, rfl, h, hl⟩ := h
    exact ⟨h, hl⟩
end Go.Eng
namespace Go.Eng
def ObjR (s : St) (w : World) (b d m : Nat) : AObj → Prop
  | .cells cs e fz => ∃ c lo hi, w.heap[b]? = some (.cells c e (lo, hi)) ∧ (∀ z, fz = some z → hi ≤ d + z) ∧ c.size = d + m ∧ cs.length ≤ m ∧ (∀ x ∈ cs, x.leaf = true) ∧ VRs s w cs ((c.toList.drop d).take cs.length) ∧ ∀ u, s.U.contains (e, u) = true → d = 0
  | .map es => ∃ en clock, w.heap[b]? = some (.map en clock) ∧ VRs s w (es.map (·.1)) (en.toList.map (·.key)) ∧ VRs s w (es.map (·.2)) (en.toList.map (·.val))
structure Rel (s : St) (h : H) (w : World) : Prop where
  low : s.n ≤ h.next
  lt : ∀ l b d m, s.ρ l = some (b, d, m) → l < h.next ∧ b < w.heap.size
  apart : ∀ l b d m, s.ρ l = some (b, d, m) → ¬ s.F b
  Flt : ∀ b, s.F b → b < w.heap.size
  inj : ∀ l l' b d m d' m', s.ρ l = some (b, d, m) → s.ρ l' = some (b, d', m') → (h.get l).isSome = true → (h.get l').isSome = true → l = l'
  obj : ∀ l b d m o, s.ρ l = some (b, d, m) → h.get l = some o → ObjR s w b d m o
structure Ext (s : St) (w : World) (s' : St) : Prop where
  ρ : ∀ l x, s.ρ l = some x → s'.ρ l = some x
  F : ∀ b, s.F b → s'.F b
  U : s'.U = s.U
  back : ∀ l b d m, s'.ρ l = some (b, d, m) → (∃ l' d' m', s.ρ l' = some (b, d', m')) ∨ w.heap.size ≤ b
  Fback : ∀ b, s'.F b → s.F b ∨ w.heap.size ≤ b
structure Keep (s : St) (w w' : World) : Prop where
  os : w'.os = w.os
  tape : w'.tape = w.tape
  output : w'.output = w.output
  size : w.heap.size ≤ w'.heap.size
  block : ∀ b, b < w.heap.size → (∀ l d m, s.ρ l ≠ some (b, d, m)) → w'.heap[b]? = w.heap[b]?
structure Mono (s : St) (w : World) (s' : St) (w' : World) : Prop where
  ext : Ext s w s'
  keep : Keep s w w'
structure Step (s : St) (w : World) (s' : St) (w' : World) : Prop extends Mono s w s' w' where
  n : s.n ≤ s'.n
  low : ∀ l, l < s.n → s'.ρ l = s.ρ l
theorem Ext.refl (s : St) (w : World) : Ext s w s := ⟨fun _ _ h => h, fun _ h => h, rfl, fun l b d m h => .inl ⟨l, d, m, h⟩, fun _ h => .inl h⟩
theorem Keep.refl (s : St) (w : World) : Keep s w w := ⟨rfl, rfl, rfl, Nat.le_refl _, fun _ _ _ => rfl⟩
theorem Mono.refl (s : St) (w : World) : Mono s w s w := ⟨.refl _ _, .refl _ _⟩
theorem Step.refl (s : St) (w : World) : Step s w s w := ⟨.refl _ _, Nat.le_refl _, fun _ _ => rfl⟩
theorem Mono.trans {s1 s2 s3 : St} {w1 w2 w3 : World} (h : Mono s1 w1 s2 w2) (k : Mono s2 w2 s3 w3) : Mono s1 w1 s3 w3 := by
  refine ⟨⟨fun l x hx => k.ext.ρ l x (h.ext.ρ l x hx), fun b hb => k.ext.F b (h.ext.F b hb), k.ext.U.trans h.ext.U, fun l b d m hl => ?_, fun b hb => (k.ext.Fback b hb).elim (h.ext.Fback b) fun e => .inr (Nat.le_trans h.keep.size e)⟩, ⟨k.keep.os.trans h.keep.os, k.keep.tape.trans h.keep.tape, k.keep.output.trans h.keep.output, Nat.le_trans h.keep.size k.keep.size, fun b hb hne => ?_⟩⟩
  · rcases k.ext.back l b d m hl with ⟨l', d', m', h'⟩ | h'
    · exact h.ext.back l' b d' m' h'
    · exact .inr (Nat.le_trans h.keep.size h')
  · rw [k.keep.block b (Nat.lt_of_lt_of_le hb h.keep.size) ?_, h.keep.block b hb hne]
    intro l d m hl
    rcases h.ext.back l b d m hl with ⟨l', d', m', h'⟩ | h'
    · exact hne l' d' m' h'
    · omega
theorem Step.trans {s1 s2 s3 : St} {w1 w2 w3 : World} (h : Step s1 w1 s2 w2) (k : Step s2 w2 s3 w3) : Step s1 w1 s3 w3 :=
  ⟨h.toMono.trans k.toMono, Nat.le_trans h.n k.n, fun l hl => (k.low l (Nat.lt_of_lt_of_le hl h.n)).trans (h.low l hl)⟩
theorem Step.drew (s : St) (w : World) : Step s w s w.drew := ⟨⟨.refl _ _, ⟨rfl, rfl, rfl, Nat.le_refl _, fun _ _ _ => rfl⟩⟩, Nat.le_refl _, fun _ _ => rfl⟩
theorem Keep.cell {s : St} {w w' : World} (h : Keep s w w') {a : Addr} (ha : a.block < w.heap.size) (hn : ∀ l d m, s.ρ l ≠ some (a.block, d, m)) : w'.cell? a = w.cell? a := by
  simp only [World.cell?, h.block a.block ha hn]
theorem addr_block (a : Addr) (n : Nat) : (a.add n).block = a.block := by unfold Addr.add; split <;> rfl
theorem Holds.keep {s : St} {w w' : World} (h : Keep s w w') {a : Addr} (ha : a.block < w.heap.size) (hn : ∀ l d m, s.ρ l ≠ some (a.block, d, m)) {vs : List Value} (hv : Holds w a vs) : Holds w' a vs := by
  intro j v hj
  rw [h.cell (by rw [addr_block]; exact ha) (by rw [addr_block]; exact hn)]
  exact hv j v hj
mutual
theorem VR.mono' {s s' : St} {w w' : World} (k : Mono s w s' w') (hap : ∀ l b d m, s.ρ l = some (b, d, m) → ¬ s.F b) : ∀ {x : AV} {v : Value}, VR s w x v → VR s' w' x v
  | .any, _, _ => by simp only [VR]
  | .bool b, v, h => by simpa only [VR] using h
  | .int _ n, v, h => by simpa only [VR] using h
  | .str l, v, h => by simpa only [VR] using h
  | .nilp, v, h => by simpa only [VR] using h
  | .nils, v, h => by simpa only [VR] using h
  | .nilm, v, h => by simpa only [VR] using h
  | .nilf, v, h => by simpa only [VR] using h
  | .nili, v, h => by simpa only [VR] using h
  | .ptr l off, v, h => by
    simp only [VR] at h ⊢
    obtain ⟨b, d, m, h1, h2⟩ := h
    exact ⟨b, d, m, k.ext.ρ _ _ h1, h2⟩
  | .fptr cs, v, h => by
    simp only [VR] at h ⊢
    obtain ⟨a, rs, h1, h2, h3, h4, h5, h6, h7⟩ := h
    exact ⟨a, rs, h1, VRs.mono' k hap h2, h3.keep k.keep h5 (fun l d m e => hap l _ d m e h4), k.ext.F _ h4, Nat.lt_of_lt_of_le h5 k.keep.size, h6, h7⟩
  | .sl l off sz len cap ex, v, h => by
    simp only [VR] at h ⊢
    obtain ⟨b, d, m, ad, c, h1, h2⟩ := h
    exact ⟨b, d, m, ad, c, k.ext.ρ _ _ h1, h2⟩
  | .fsl full sz es, v, h => by
    simp only [VR] at h ⊢
    obtain ⟨A, c, h1, h2, h3, h4⟩ := h
    refine ⟨A, c, h1, h2, h3, h4.imp id ?_⟩
    rintro ⟨a, rs, h5, h6, h7, h8, h9, h11, h10⟩
    exact ⟨a, rs, h5, VRs.mono' k hap h6, k.ext.F _ h7, Nat.lt_of_lt_of_le h8 k.keep.size, h9, h11, fun i r hr => ⟨(h10 i r hr).1, (h10 i r hr).2.keep k.keep (by rw [addr_block]; exact h8) (by rw [addr_block]; exact fun l d m e => hap l _ d m e h7)⟩⟩
  | .map l, v, h => by
    simp only [VR] at h ⊢
    obtain ⟨b, d, m, h1, h2⟩ := h
    exact ⟨b, d, m, k.ext.ρ _ _ h1, h2⟩
  | .fn f first cap, v, h => by
    simp only [VR] at h ⊢
    obtain ⟨vs, us, h1, h2, h3⟩ := h
    exact ⟨vs, us, h1, VRs.mono' k hap h2, VRs.mono' k hap h3⟩
  | .iface t x, v, h => by
    simp only [VR] at h ⊢
    obtain ⟨y, h1, h2⟩ := h
    exact ⟨y, h1, VR.mono' k hap h2⟩
  | .agg cs, v, h => by
    simp only [VR] at h ⊢
    obtain ⟨vs, h1, h2, h3⟩ := h
    exact ⟨vs, h1, VRs.mono' k hap h2, h3⟩
  | .tup cs, v, h => by
    simp only [VR] at h ⊢
    obtain ⟨vs, h1, h2⟩ := h
    exact ⟨vs, h1, VRs.mono' k hap h2⟩
theorem VRs.mono' {s s' : St} {w w' : World} (k : Mono s w s' w') (hap : ∀ l b d m, s.ρ l = some (b, d, m) → ¬ s.F b) : ∀ {xs : List AV} {vs : List Value}, VRs s w xs vs → VRs s' w' xs vs
  | [], _, h => by simpa only [VRs] using h
  | x :: xs, vs, h => by
    simp only [VRs] at h ⊢
    obtain ⟨r, rs', h1, h2, h3⟩ := h
    exact ⟨r, rs', h1, VR.mono' k hap h2, VRs.mono' k hap h3⟩
end
theorem VR.mono {s s' : St} {w w' : World} (k : Step s w s' w') (hap : ∀ l b d m, s.ρ l = some (b, d, m) → ¬ s.F b) {x : AV} {v : Value} (h : VR s w x v) : VR s' w' x v := VR.mono' k.toMono hap h
theorem VRs.mono {s s' : St} {w w' : World} (k : Step s w s' w') (hap : ∀ l b d m, s.ρ l = some (b, d, m) → ¬ s.F b) {x : List AV} {v : List Value} (h : VRs s w x v) : VRs s' w' x v := VRs.mono' k.toMono hap h
theorem ObjR.mono' {s s' : St} {w w' : World} (k : Mono s w s' w') (hap : ∀ l b d m, s.ρ l = some (b, d, m) → ¬ s.F b) {b d m : Nat} {o : AObj} (h : ObjR s w b d m o) (hb : w'.heap[b]? = w.heap[b]?) : ObjR s' w' b d m o := by
  cases o with
  | cells cs e fz =>
    obtain ⟨c, lo, hi, h1, h2, h3, h4, h5, h6, h7⟩ := h
    exact ⟨c, lo, hi, by rw [hb]; exact h1, h2, h3, h4, h5, VRs.mono' k hap h6, by rw [k.ext.U]; exact h7⟩
  | map es =>
    obtain ⟨en, clock, h1, h2, h3⟩ := h
    exact ⟨en, clock, by rw [hb]; exact h1, VRs.mono' k hap h2, VRs.mono' k hap h3⟩
theorem ObjR.mono {s s' : St} {w w' : World} (k : Step s w s' w') (hap : ∀ l b d m, s.ρ l = some (b, d, m) → ¬ s.F b) {b d m : Nat} {o : AObj} (h : ObjR s w b d m o) (hb : w'.heap[b]? = w.heap[b]?) : ObjR s' w' b d m o := ObjR.mono' k.toMono hap h hb
def St.add (s : St) (l : Nat) (x : Nat × Nat × Nat) : St := ⟨fun l' => if l' = l then some x else s.ρ l', s.F, s.U, s.n⟩
theorem Step.add {s : St} {h : H} {w w' : World} (hr : Rel s h w) {b d m : Nat} (hb : w.heap.size ≤ b ∨ ∃ l d' m', s.ρ l = some (b, d', m')) (hk : Keep s w w') : Step s w (s.add h.next (b, d, m)) w' := by
  refine ⟨⟨⟨fun l x hx => ?_, fun _ h => h, rfl, fun l b' d' m' hl => ?_, fun _ h => .inl h⟩, hk⟩, Nat.le_refl _, fun l hl => ?_⟩
  rotate_left 2
  · have := hr.low
    simp only [St.add]
    rw [if_neg (by omega)]
  · obtain ⟨b1, d1, m1⟩ := x
    have := (hr.lt l b1 d1 m1 hx).1
    simp only [St.add]
    rw [if_neg (by omega)]; exact hx
  · simp only [St.add] at hl
    split at hl
    · injection hl with e
      injection e with e1 e2
      subst e1
      exact hb.symm
    · exact .inl ⟨l, d', m', hl⟩
theorem ltF {s : St} {h : H} {w : World} (hr : Rel s h w) {l b d m : Nat} (hl : s.ρ l = some (b, d, m)) : b < w.heap.size := (hr.lt l b d m hl).2
theorem Rel.new {s : St} {h : H} {w w' : World} (hr : Rel s h w) {b d m : Nat} (o : AObj) (hb : w.heap.size ≤ b) (hb' : b < w'.heap.size) (hk : Keep s w w') (hold : ∀ k, k < w.heap.size → w'.heap[k]? = w.heap[k]?)
    (ho : Step s w (s.add h.next (b, d, m)) w' → ObjR (s.add h.next (b, d, m)) w' b d m o) : Rel (s.add h.next (b, d, m)) (h.new o) w' ∧ Step s w (s.add h.next (b, d, m)) w' := by
  have st : Step s w (s.add h.next (b, d, m)) w' := Step.add hr (.inl hb) hk
  have old : ∀ l x, (s.add h.next (b, d, m)).ρ l = some x → (l = h.next ∧ x = (b, d, m)) ∨ (l ≠ h.next ∧ s.ρ l = some x) := by
    intro l x hl
    simp only [St.add] at hl
    split at hl
    · injection hl with e; exact .inl ⟨‹_›, e.symm⟩
    · exact .inr ⟨‹_›, hl⟩
  have hF : ¬ s.F b := fun e => by have := hr.Flt b e; omega
  refine ⟨⟨Nat.le_succ_of_le hr.low, fun l b1 d1 m1 hl => ?_, fun l b1 d1 m1 hl => ?_, fun b1 hb1 => Nat.lt_of_lt_of_le (hr.Flt b1 hb1) hk.size, fun l l' b1 d1 m1 d2 m2 h1 h2 g1 g2 => ?_, fun l b1 d1 m1 o1 hl ho1 => ?_⟩, st⟩
  · rw [H.next_new]
    rcases old l _ hl with ⟨rfl, e⟩ | ⟨_, hl⟩
    · injection e with e1 _; subst e1; exact ⟨by omega, hb'⟩
    · have := hr.lt l b1 d1 m1 hl
      have := hk.size
      omega
  · rcases old l _ hl with ⟨rfl, e⟩ | ⟨_, hl⟩
    · injection e with e1 _; subst e1; exact hF
    · exact hr.apart l b1 d1 m1 hl
  · rw [H.get_new] at g1 g2
    rcases old l _ h1 with ⟨rfl, e⟩ | ⟨n1, h3⟩ <;> rcases old l' _ h2 with ⟨rfl, e'⟩ | ⟨n2, h4⟩
    · rfl
    · injection e with e1 _; subst e1
      have := ltF hr h4; omega
    · injection e' with e1 _; subst e1
      have := ltF hr h3; omega
    · rw [if_neg n1] at g1
      rw [if_neg n2] at g2
      exact hr.inj l l' b1 d1 m1 d2 m2 h3 h4 g1 g2
  · rw [H.get_new] at ho1
    rcases old l _ hl with ⟨rfl, e⟩ | ⟨n1, hl⟩
    · rw [if_pos rfl] at ho1
      injection ho1 with ho1
      subst ho1
      injection e with e1 e2; subst e1
      injection e2 with e2 e3; subst e2; subst e3
      exact ho st
    · rw [if_neg n1] at ho1
      exact ObjR.mono st hr.apart (hr.obj l b1 d1 m1 o1 hl ho1) (hold b1 (ltF hr hl))
theorem Rel.turn {s : St} {h : H} {w w' : World} (hr : Rel s h w) {l b d m : Nat} (o : AObj) (hl : s.ρ l = some (b, d, m)) (hlive : (h.get l).isSome = true) (hk : Keep s w w') (hsz : w'.heap.size = w.heap.size) (hold : ∀ k, k ≠ b → w'.heap[k]? = w.heap[k]?)
    (ho : Step s w s w' → ObjR s w' b d m o) : Rel s (h.set l o) w' ∧ Step s w s w' := by
  have st : Step s w s w' := ⟨⟨.refl _ _, hk⟩, Nat.le_refl _, fun _ _ => rfl⟩
  have live : ∀ l', ((h.set l o).get l').isSome = true → (h.get l').isSome = true := by
    intro l' g
    rw [H.get_set] at g
    split at g
    · rename_i e; rw [e]; exact hlive
    · exact g
  refine ⟨⟨hr.low, fun l1 b1 d1 m1 h1 => ?_, hr.apart, fun b1 hb1 => by rw [hsz]; exact hr.Flt b1 hb1, fun l1 l2 b1 d1 m1 d2 m2 h1 h2 g1 g2 => hr.inj l1 l2 b1 d1 m1 d2 m2 h1 h2 (live l1 g1) (live l2 g2), fun l1 b1 d1 m1 o1 h1 ho1 => ?_⟩, st⟩
  · rw [H.next_set, hsz]; exact hr.lt l1 b1 d1 m1 h1
  · rw [H.get_set] at ho1
    split at ho1
    · rename_i e
      injection ho1 with ho1
      subst ho1; subst e
      rw [hl] at h1
      injection h1 with e
      injection e with e1 e2; subst e1
      injection e2 with e2 e3; subst e2; subst e3
      exact ho st
    · rename_i hne
      refine ObjR.mono st hr.apart (hr.obj l1 b1 d1 m1 o1 h1 ho1) (hold b1 fun e => hne ?_)
      subst e
      exact hr.inj l1 l b1 d1 m1 d m h1 hl (by rw [ho1]; rfl) hlive
theorem Rel.del {s : St} {h : H} {w : World} (hr : Rel s h w) (l : Nat) : Rel s (h.del l) w := by
  refine ⟨hr.low, fun l1 b1 d1 m1 h1 => hr.lt l1 b1 d1 m1 h1, hr.apart, hr.Flt, fun l1 l2 b1 d1 m1 d2 m2 h1 h2 g1 g2 => ?_, fun l1 b1 d1 m1 o1 h1 ho1 => ?_⟩
  · rw [H.get_del] at g1 g2
    split at g1
    · cases g1
    · split at g2
      · cases g2
      · exact hr.inj l1 l2 b1 d1 m1 d2 m2 h1 h2 g1 g2
  · rw [H.get_del] at ho1
    split at ho1
    · cases ho1
    · exact hr.obj l1 b1 d1 m1 o1 h1 ho1
theorem Rel.drew {s : St} {h : H} {w : World} (hr : Rel s h w) : Rel s h w.drew := by
  refine ⟨hr.low, hr.lt, hr.apart, hr.Flt, hr.inj, fun l b d m o hl ho => ?_⟩
  exact ObjR.mono (Step.drew s w) hr.apart (hr.obj l b d m o hl ho) rfl
end Go.Eng
namespace Go.Eng
inductive X where
  | t (n : Nat)
  | c (v : AV)
  | g (n : Nat)
  deriving Inhabited
inductive KK where
  | int | str | bool | ptr
  deriving Inhabited
inductive KT where
  | one (k : KK)
  | many (ks : List KK)
  deriving Inhabited
inductive Ck where
  | base | bool | ptr | ifc | slc
  | agg (ks : List KK)
  deriving Inhabited
inductive I where
  | mv (x : X)
  | pick (c a b : X)
  | fad (off : Nat) (x : X)
  | fld (off sz : Nat) (ag : Bool) (x : X)
  | iad (sz : Nat) (x i : X)
  | iadA (n sz : Nat) (x i : X)
  | ixS (x i : X)
  | ixA (n sz : Nat) (ag : Bool) (x i : X)
  | ext (x : X) (i : Nat)
  | sS (x : X) (lo hi : Option X)
  | sL (sz : Nat) (x : X) (lo hi mx : Option X)
  | sA (n sz : Nat) (x : X) (lo hi : Option X)
  | nck (x : X)
  | bld (zero : List AV) (parts : List (Nat × Nat × X))
  | bin (op : BinOp) (k : Ck) (x y : X)
  | un (op : UnOp) (x : X)
  | cvI (k : IntKind) (x : X)
  | cvR (x : X)
  | cvB (x : X)
  | cvS (e : TypeId) (x : X)
  | cvP (x : X)
  | cvQ (u : TypeId) (x : X)
  | mkI (t : TypeId) (x : X)
  | mkF (f : FuncId) (first cap : List X)
  | len (k : Nat) (x : X)
  | mn (xs : List X)
  | mx (xs : List X)
  | ld (sz : Nat) (ag : Bool) (x : X)
  | st (sz : Nat) (a v : X)
  | new (zero : List AV) (e : TypeId)
  | box (sz : Nat) (e : TypeId) (x : X)
  | mkS (sz bytes : Nat) (e : TypeId) (zero : List AV) (n c : X)
  | bsl (sz : Nat) (e : TypeId) (zero : List AV) (n : Nat) (parts : List (Nat × X))
  | mkM
  | lk (kt : KT) (zero : AV) (ok : Bool) (m k : X)
  | up (kt : KT) (m k v : X)
  | del (kt : KT) (m k : X)
  | ap (sz bytes : Nat) (e : TypeId) (s x : X)
  | apS (bytes : Nat) (e : TypeId) (s x : X)
  | cp (sz : Nat) (d s : X)
  | cpS (d s : X)
  | clr (sz : Nat) (zero : List AV) (x : X)
  | sd (x : X)
  | us (u : TypeId) (p n : X)
  | call (f : FuncId) (xs : List X)
  | callv (x : X) (xs : List X)
  | bad
  deriving Inhabited
structure O where
  d : Option Nat
  i : I
  g : Option (Nat × Bool)
  deriving Inhabited
inductive S where
  | skip
  | reg (ops : List O) (live : List Nat)
  | regD (ops : List (Nat × O × Nat)) (live : List Nat)
  | seq (a b : S)
  | cond (c : X) (a b : S)
  | block (id : Nat) (b : S)
  | loop (b : S)
  | exit (id : Nat)
  | ret
  | bad
  deriving Inhabited
/-! ### from the model's code -/
mutual
def constV : Value → Option AV
  | .bool b => some (.bool b)
  | .int k n => some (.int k n)
  | .string s => some (.str (s.data.toList.map UInt8.toNat))
  | .pointer none => some .nilp
  | .slice none 0 0 => some .nils
  | .map none => some .nilm
  | .nilFunc => some .nilf
  | .nilIface => some .nili
  | _ => none
def constVs : List Value → Option (List AV)
  | [] => some []
  | v :: vs => match constV v, constVs vs with
    | some x, some xs => some (x :: xs)
    | _, _ => none
end
def constVa (v : Value) : Option AV :=
  match v with
  | .agg cs => (constVs cs.toList).map .agg
  | v => constV v
def cX : Operand → Option X
  | .tmp t => some (.t t)
  | .const v => (constVa v).map .c
  | .global g => some (.g g)
  | .func f => some (.c (.fn f [] []))
def cXs : List Operand → Option (List X)
  | [] => some []
  | x :: xs => match cX x, cXs xs with
    | some y, some ys => some (y :: ys)
    | _, _ => none
def Tab.agg (P : Program) (t : TypeId) : Option Bool :=
  match P.underlying t with
  | some (.struct _) | some (.array _ _) => some true
  | some _ => some false
  | none => none
def size (P : Program) (t : TypeId) : Option Nat := (P.info? t).map (·.size)
def zeroOf (P : Program) (t : TypeId) : Option (List AV) :=
  match (P.info? t).bind (·.zero) with
  | some v => if v.cells.size = (size P t).getD 0 then constVs v.cells.toList else none
  | none => none
def zeroAV (P : Program) (t : TypeId) : Option AV := ((P.info? t).bind (·.zero)).bind constVa
def kkOf (P : Program) (t : TypeId) : Option KK :=
  match P.underlying t with
  | some .bool => some .bool
  | some (.int _) => some .int
  | some .string => some .str
  | some (.pointer e) => match size P e with
    | some (_ + 1) => some .ptr
    | _ => none
  | _ => none
def kksOf (P : Program) : List Field → Nat → Option (List KK)
  | [], _ => some []
  | f :: fs, i => if f.name ≠ "_" ∧ f.offset = i then match kkOf P f.type, kksOf P fs (i + 1) with
      | some k, some ks => some (k :: ks)
      | _, _ => none
    else none
def noPtr : List KK → Bool
  | [] => true
  | .ptr :: _ => false
  | _ :: ks => noPtr ks
def ckOf (P : Program) (x y : Operand) (t : TypeId) : Option Ck :=
  match P.underlying t with
  | some .bool => some .bool
  | some (.int _) | some .string => some .base
  | some (.pointer e) => match size P e with
    | some (_ + 1) => some .ptr
    | _ => none
  | some (.struct fs) => match kksOf P fs.toList 0 with
    | some ks => if P.stoodInHeld t = false ∧ P.eqGuardType P.depth t = false ∧ noPtr ks = true then some (.agg ks) else none
    | none => none
  | some (.interface _) => match x, y with
    | .const .nilIface, _ => some .ifc
    | _, .const .nilIface => some .ifc
    | _, _ => none
  | some (.slice _) => some .slc
  | _ => none
def ktOf (P : Program) (t : TypeId) : Option KT :=
  match P.underlying t with
  | some (.struct fs) => match kksOf P fs.toList 0 with
    | some ks => if P.stoodInHeld t = false then some (.many ks) else none
    | none => none
  | _ => (kkOf P t).map .one
def optX : Option Operand → Option (Option X)
  | none => some none
  | some x => (cX x).map some
def cParts (pl : List (Nat × Nat)) : List (Nat × Operand) → Option (List (Nat × Nat × X))
  | [] => some []
  | (i, x) :: r => match pl[i]?, cX x, cParts pl r with
    | some f, some y, some ys => some ((f.1, f.2, y) :: ys)
    | _, _, _ => none
def cPartsL : List (Nat × Operand) → Option (List (Nat × X))
  | [] => some []
  | (i, x) :: r => match cX x, cPartsL r with
    | some y, some ys => some ((i, y) :: ys)
    | _, _ => none
def cCall (P : Program) (c : Call) : Option I :=
  match c.callee with
  | .value (.func f) => do some (.call f (← cXs c.args.toList))
  | .value x => do some (.callv (← cX x) (← cXs c.args.toList))
  | .invoke _ _ => none
  | .builtin b =>
    match b, c.args.toList, c.argTypes.toList with
    | .len, [x], [t] => match P.underlying t with
      | some .string => do some (.len 0 (← cX x))
      | some (.slice _) => do some (.len 1 (← cX x))
      | some (.map _ _) => do some (.len 2 (← cX x))
      | _ => none
    | .min, xs, _ => do some (.mn (← cXs xs))
    | .max, xs, _ => do some (.mx (← cXs xs))
    | .append, [s, x], [t, u] => match P.underlying t, P.underlying u with
      | some (.slice e), some (.slice _) => match P.info? e with
        | some i => match i.zero with
          | some z => if 0 < i.size ∧ 0 < i.bytes ∧ z.cells.size = i.size then do some (.ap i.size i.bytes e (← cX s) (← cX x)) else none
          | none => none
        | none => none
      | some (.slice e), some .string => match P.info? e with
        | some i => match i.zero with
          | some z => if i.size = 1 ∧ 0 < i.bytes ∧ z.cells.size = i.size then do some (.apS i.bytes e (← cX s) (← cX x)) else none
          | none => none
        | none => none
      | _, _ => none
    | .copy, [s, x], [t, u] => match P.underlying t, P.underlying u with
      | some (.slice e), some (.slice _) => match size P e with
        | some (n + 1) => do some (.cp (n + 1) (← cX s) (← cX x))
        | _ => none
      | some (.slice e), some .string => match size P e with
        | some 1 => do some (.cpS (← cX s) (← cX x))
        | _ => none
      | _, _ => none
    | .clear, [x], [t] => match P.underlying t with
      | some (.slice e) => match size P e, zeroOf P e with
        | some (n + 1), some z => do some (.clr (n + 1) z (← cX x))
        | _, _ => none
      | _ => none
    | .delete, [m, k], [t] => match P.underlying t with
      | some (.map kt _) => match ktOf P kt with
        | some q => do some (.del q (← cX m) (← cX k))
        | none => none
      | _ => none
    | .unsafeSliceData, [x], _ => do some (.sd (← cX x))
    | .unsafeString, [p, n], [t, _] => match P.underlying t with
      | some (.pointer u) => match size P u, P.underlying u with
        | some 1, some (.int _) => do some (.us u (← cX p) (← cX n))
        | _, _ => none
      | _ => none
    | _, _, _ => none
def cOp (P : Program) (o : Op) : Option I :=
  match o with
  | .move x | .assign x => do some (.mv (← cX x))
  | .pick c a b => do some (.pick (← cX c) (← cX a) (← cX b))
  | .alloc e => match zeroOf P e with
    | some z => some (.new z e)
    | none => none
  | .box e x => match size P e with
    | some n => do some (.box n e (← cX x))
    | none => none
  | .build t ps => match P.underlying t, zeroOf P t with
    | some (.struct fs), some z => match fs.toList.mapM (fun f => (P.info? f.type).map fun i => (f.offset, i.size)) with
      | some pl => do some (.bld z (← cParts pl ps.toList))
      | none => none
    | _, _ => none
  | .buildSlice t n ps => match P.underlying t with
    | some (.slice e) => match size P e, zeroOf P e with
      | some (k + 1), some z => if n * (k + 1) ≤ 2 ^ 24 then do some (.bsl (k + 1) e z n (← cPartsL ps.toList)) else none
      | _, _ => none
    | _ => none
  | .load t a => match Tab.agg P t, size P t with
    | some b, some n => do some (.ld n b (← cX a))
    | _, _ => none
  | .store t a v => match size P t with
    | some n => do some (.st n (← cX a) (← cX v))
    | none => none
  | .nilCheck x => do some (.nck (← cX x))
  | .binOp op t x y _ => match op with
    | .eql | .neq => match ckOf P x y t with
      | some k => do some (.bin op k (← cX x) (← cX y))
      | none => none
    | _ => do some (.bin op .base (← cX x) (← cX y))
  | .unOp op _ x => do some (.un op (← cX x))
  | .convert s d x => match P.underlying s, P.underlying d with
    | some (.int _), some (.int k) => do some (.cvI k (← cX x))
    | some (.int _), some .string => do some (.cvR (← cX x))
    | some (.slice e), some .string => match P.underlying e with
      | some (.int .u8) => do some (.cvB (← cX x))
      | _ => none
    | some .string, some (.slice e) => match P.underlying e with
      | some (.int .u8) => do some (.cvS e (← cX x))
      | _ => none
    | some (.pointer t), some .unsafePointer => match size P t with
      | some (_ + 1) => do some (.cvP (← cX x))
      | _ => none
    | some .unsafePointer, some (.pointer u) => match size P u with
      | some (_ + 1) => do some (.cvQ u (← cX x))
      | _ => none
    | _, _ => none
  | .makeInterface t x => match P.underlying t with
    | some (.interface _) => none
    | some _ => do some (.mkI t (← cX x))
    | none => none
  | .makeFunc (.func f) a b => do some (.mkF f (← cXs a.toList) (← cXs b.toList))
  | .makeMap t none => match P.underlying t with
    | some (.map _ _) => some .mkM
    | _ => none
  | .makeSlice t n c => match P.underlying t with
    | some (.slice e) => match P.info? e, zeroOf P e with
      | some i, some z => if 0 < i.size && 0 < i.bytes then do some (.mkS i.size i.bytes e z (← cX n) (← cX c)) else none
      | _, _ => none
    | _ => none
  | .slice t x lo hi mx => match P.underlying t with
    | some .string => match mx with
      | none => do some (.sS (← cX x) (← optX lo) (← optX hi))
      | some _ => none
    | some (.slice e) => match size P e with
      | some (n + 1) => do some (.sL (n + 1) (← cX x) (← optX lo) (← optX hi) (← optX mx))
      | _ => none
    | some (.array n e) => match size P e, mx with
      | some (k + 1), none => do some (.sA n (k + 1) (← cX x) (← optX lo) (← optX hi))
      | _, _ => none
    | _ => none
  | .fieldAddr t x f => match P.underlying t with
    | some (.struct fs) => match fs[f]? with
      | some fd => match size P fd.type with
        | some (_ + 1) => do some (.fad fd.offset (← cX x))
        | _ => none
      | none => none
    | _ => none
  | .field t x f => match P.underlying t with
    | some (.struct fs) => match fs[f]? with
      | some fd => match Tab.agg P fd.type, size P fd.type with
        | some b, some n => do some (.fld fd.offset n b (← cX x))
        | _, _ => none
      | none => none
    | _ => none
  | .indexAddr t x i => match P.underlying t with
    | some (.slice e) => match size P e with
      | some n => do some (.iad n (← cX x) (← cX i))
      | none => none
    | some (.array k e) => match size P e with
      | some n => do some (.iadA k n (← cX x) (← cX i))
      | none => none
    | _ => none
  | .index t x i => match P.underlying t with
    | some .string => do some (.ixS (← cX x) (← cX i))
    | some (.array k e) => match Tab.agg P e, size P e with
      | some b, some n => do some (.ixA k n b (← cX x) (← cX i))
      | _, _ => none
    | _ => none
  | .lookup t m k ok => match P.underlying t with
    | some (.map kt e) => match zeroAV P e, ktOf P kt with
      | some z, some q => do some (.lk q z ok (← cX m) (← cX k))
      | _, _ => none
    | _ => none
  | .mapUpdate t m k v | .insert t m k v => match P.underlying t with
    | some (.map kt _) => match ktOf P kt with
      | some q => do some (.up q (← cX m) (← cX k) (← cX v))
      | none => none
    | _ => none
  | .extract x i => do some (.ext (← cX x) i)
  | .call c => cCall P c
  | _ => none
def cGuard (ops : Array Oper) : Option (Nat × Bool) → Option (Option (Nat × Bool))
  | none => some none
  | some (j, b) => match (ops[j]?).bind (·.dst) with
    | some d => some (some (d, b))
    | none => none
def dstOk (N : Nat) : Option Nat → Bool
  | none => true
  | some d => d < N
def cOper (P : Program) (N : Nat) (ops : Array Oper) (o : Oper) : O :=
  match cOp P o.op with
  | some i => match cGuard ops o.guard with
    | some g => if dstOk N o.dst then ⟨o.dst, i, g⟩ else ⟨none, .bad, none⟩
    | none => ⟨none, .bad, none⟩
  | none => ⟨none, .bad, none⟩
def I.acts : I → Bool
  | .st .. | .box .. | .mkS .. | .bsl .. | .mkM | .up .. | .del .. | .ap .. | .apS .. | .cp .. | .cpS .. | .clr .. | .us .. | .call .. | .callv .. | .cvS .. | .bad => true
  | _ => false
def I.reads : I → Bool
  | .ld .. | .lk .. | .len .. | .cvB .. | .cvP .. | .cvQ .. | .bin .. | .sA .. => true
  | _ => false
def I.news : I → Bool
  | .new .. => true
  | _ => false
def cBefore (ops : List Oper) : List Nat :=
  ops.foldl (fun acc o => acc ++ [o.after.toList.foldl (fun s e => if Region.binds .any e then s ||| 2 ^ e.on ||| acc.getD e.on 0 else s) 0]) []
def actsAt (l : List O) : List Nat := (l.zipIdx.filter (fun p => p.1.i.acts)).map (·.2)
def stages (b : List Nat) (acts : List Nat) (n : Nat) : List Nat :=
  (List.range (acts.length + 1)).flatMap fun k =>
    ((List.range n).filter fun i => !acts.contains i && (acts.filter fun j => (b.getD i 0).testBit j).length == k) ++ (acts[k]?).toList
def cRegD (P : Program) (N : Nat) (ops : List Oper) : List (Nat × O × Nat) :=
  let l := ops.map (cOper P N ops.toArray)
  let b := cBefore ops
  (stages b (actsAt l) l.length).map fun i => (i, l.getD i ⟨none, .bad, none⟩, b.getD i 0)
end Go.Eng
namespace Go.Eng
abbrev Env := List (Nat × AV)
def Env.get : Env → Nat → AV
  | [], _ => .any
  | (k, v) :: e, t => match Nat.beq k t with
    | true => v
    | false => Env.get e t
theorem Env.get_cons (k : Nat) (v : AV) (e : Env) (t : Nat) : Env.get ((k, v) :: e) t = if k = t then v else Env.get e t := by
  simp only [Env.get]
  cases h : Nat.beq k t with
  | true => rw [if_pos (Nat.eq_of_beq_eq_true h)]
  | false => rw [if_neg (Nat.ne_of_beq_eq_false h)]
def Env.put (e : Env) (d : Option Nat) (v : AV) : Env :=
  match d with
  | some d => (d, v) :: e
  | none => e
def Env.keep (e : Env) : List Nat → Env
  | [] => []
  | t :: l => (t, e.get t) :: Env.keep e l
def X.ev (G : Nat → AV) (e : Env) : X → AV
  | .t n => e.get n
  | .c v => v
  | .g n => G n
def evs (G : Nat → AV) (e : Env) : List X → List AV
  | [] => []
  | x :: xs => x.ev G e :: evs G e xs
def sub (cs : List AV) (off n : Nat) : Option (List AV) :=
  let r := (cs.drop off).take n
  if r.length = n then some r else none
def mkV (ag : Bool) (cs : List AV) : Option AV :=
  if ag then some (.agg cs) else match cs with
    | [v] => some v
    | _ => none
def lo64 : Int := -9223372036854775808
def hi64 : Int := 9223372036854775807
def wr (k : IntKind) (n : Int) : Int :=
  match k with
  | .i64 => if -9223372036854775808 ≤ n then (if n ≤ 9223372036854775807 then n else IntKind.wrap .i64 n) else IntKind.wrap .i64 n
  | k => IntKind.wrap k n
def evInt (op : BinOp) (k : IntKind) (a b : Int) : Option AV :=
  match op with
  | .add => some (.int k (wr k (a + b)))
  | .sub => some (.int k (wr k (a - b)))
  | .mul => some (.int k (wr k (a * b)))
  | .quo => if b = 0 then none else some (.int k (wr k (a.tdiv b)))
  | .rem => if b = 0 then none else some (.int k (a.tmod b))
  | .and => some (.int k (k.wrap (BitVec.ofInt k.bits a &&& BitVec.ofInt k.bits b).toNat))
  | .or => some (.int k (k.wrap (BitVec.ofInt k.bits a ||| BitVec.ofInt k.bits b).toNat))
  | .xor => some (.int k (k.wrap (BitVec.ofInt k.bits a ^^^ BitVec.ofInt k.bits b).toNat))
  | .andNot => some (.int k (k.wrap (BitVec.ofInt k.bits a &&& ~~~BitVec.ofInt k.bits b).toNat))
  | .eql => some (.bool (decide (a = b)))
  | .neq => some (.bool (!decide (a = b)))
  | .lss => some (.bool (decide (a < b)))
  | .leq => some (.bool (decide (a ≤ b)))
  | .gtr => some (.bool (decide (b < a)))
  | .geq => some (.bool (decide (b ≤ a)))
  | .shl | .shr => none
def evShift (op : BinOp) (k : IntKind) (a b : Int) : Option AV :=
  if b < 0 then none else match op with
    | .shl => some (.int k (k.wrap (a * 2 ^ (min b.toNat k.bits))))
    | .shr => some (.int k (a.fdiv (2 ^ (min b.toNat k.bits))))
    | _ => none
def ltB : List Nat → List Nat → Bool
  | _, [] => false
  | [], _ :: _ => true
  | a :: x, b :: y => if a < b then true else if a = b then ltB x y else false
def evStr (op : BinOp) (a b : List Nat) : Option AV :=
  match op with
  | .add => if a.length + b.length ≤ 9223372036854775807 then some (.str (a ++ b)) else none
  | .eql => some (.bool (decide (a = b)))
  | .neq => some (.bool (!decide (a = b)))
  | .lss => some (.bool (ltB a b))
  | .leq => some (.bool (ltB a b || decide (a = b)))
  | .gtr => some (.bool (!(ltB a b || decide (a = b))))
  | .geq => some (.bool (!ltB a b))
  | _ => none
def plainObj (h : H) (l off : Nat) : Bool :=
  match h.get l with
  | some (.cells cs _ (some 0)) => off < cs.length
  | _ => false
def eqP (h : H) : AV → AV → Option Bool
  | .nilp, .nilp => some true
  | .nilp, .ptr _ _ => some false
  | .ptr _ _, .nilp => some false
  | .nilp, .fptr _ => some false
  | .fptr _, .nilp => some false
  | .ptr l o, .ptr l' o' => if l = l' then some (decide (o = o')) else if plainObj h l o && plainObj h l' o' then some false else none
  | _, _ => none
def eqK (h : H) : KK → AV → AV → Option Bool
  | .int, .int k a, .int k' b => if k = k' then some (decide (a = b)) else none
  | .str, .str a, .str b => some (decide (a = b))
  | .bool, .bool a, .bool b => some (a == b)
  | .ptr, a, b => eqP h a b
  | _, _, _ => none
def eqKs (h : H) : List KK → List AV → List AV → Option Bool
  | [], [], [] => some true
  | k :: ks, a :: aas, b :: bs => match eqK h k a b with
    | some true => eqKs h ks aas bs
    | some false => if aas.length = ks.length ∧ bs.length = ks.length then some false else none
    | none => none
  | _, _, _ => none
def eqKey (h : H) : KT → AV → AV → Option Bool
  | .many ks, .agg aas, .agg bs => eqKs h ks aas bs
  | .one k, a, b => eqK h k a b
  | _, _, _ => none
def keyOk : KT → AV → Bool
  | .many ks, .agg aas => aas.length == ks.length
  | .many _, _ => false
  | .one _, _ => true
def findK (h : H) (q : KT) (k : AV) : List (AV × AV) → Nat → Option (Option (Nat × AV))
  | [], _ => some none
  | (k', v) :: es, i => match eqKey h q k k' with
    | some true => some (some (i, v))
    | some false => findK h q k es (i + 1)
    | none => none
def evBin (h : H) (op : BinOp) (k : Ck) (x y : AV) : Option AV :=
  match x, y with
  | .int kx a, .int ky b => match op with
    | .shl => evShift .shl kx a b
    | .shr => evShift .shr kx a b
    | op => if kx = ky then evInt op kx a b else none
  | .str a, .str b => evStr op a b
  | x, y => match op with
    | .eql => (evEq h k x y).map .bool
    | .neq => (evEq h k x y).map fun b => .bool (!b)
    | _ => none
where
  evEq (h : H) (k : Ck) (x y : AV) : Option Bool :=
    match k, x, y with
    | .bool, .bool a, .bool b => some (a == b)
    | .ptr, x, y => eqP h x y
    | .agg ks, .agg aas, .agg bs => eqKs h ks aas bs
    | .ifc, .nili, .nili => some true
    | .ifc, .nili, .iface _ _ => some false
    | .ifc, .iface _ _, .nili => some false
    | .slc, .nils, .nils => some true
    | .slc, .sl .., .nils => some false
    | .slc, .nils, .sl .. => some false
    | _, _, _ => none
def evMin (a b : AV) : Option AV :=
  match a, b with
  | .int k x, .int k' y => if k = k' then some (.int k (if y < x then y else x)) else none
  | _, _ => none
def evMax (a b : AV) : Option AV :=
  match a, b with
  | .int k x, .int k' y => if k = k' then some (.int k (if y > x then y else x)) else none
  | _, _ => none
def foldO (f : AV → AV → Option AV) : AV → List AV → Option AV
  | a, [] => some a
  | a, b :: r => match f a b with
    | some c => foldO f c r
    | none => none
def bound (v : Option AV) (d most : Nat) : Option Nat :=
  match v with
  | none => some d
  | some (.int _ n) => if 0 ≤ n ∧ n ≤ most then some n.toNat else none
  | some _ => none
def fillC (zero : List AV) : List (Nat × Nat × AV) → Option (List AV)
  | [] => some zero
  | (off, n, v) :: r =>
    if v.elt && v.cells.length == n && off + n ≤ zero.length && v.cells.all (·.leaf) then fillC (zero.take off ++ v.cells ++ zero.drop (off + n)) r else none
def evParts (G : Nat → AV) (e : Env) : List (Nat × Nat × X) → List (Nat × Nat × AV)
  | [] => []
  | (o, n, x) :: r => (o, n, x.ev G e) :: evParts G e r
def evPartsL (G : Nat → AV) (e : Env) (sz : Nat) : List (Nat × X) → List (Nat × Nat × AV)
  | [] => []
  | (i, x) :: r => (i * sz, sz, x.ev G e) :: evPartsL G e sz r
def bytesOf : List AV → Option (List Nat)
  | [] => some []
  | .int .u8 n :: r => match bytesOf r with
    | some l => some ((UInt8.ofNat n.toNat).toNat :: l)
    | none => none
  | _ => none
def srcOf (h : H) (sz : Nat) : AV → Option (Nat × List AV)
  | .nils => some (0, [])
  | .sl l off sz' len _ _ => if sz' = sz then match h.get l with
      | some (.cells cs _ _) => match sub cs off (len * sz) with
        | some r => some (len, r)
        | none => none
      | _ => none
    else none
  | .fsl _ sz' es => if sz' = sz ∨ es = [] then some (es.length, es.flatMap (·.cells)) else none
  | _ => none
def cutO (l off sz len cap : Nat) (ex : Bool) (lo hi mx : Option AV) : Option AV :=
  match mx with
  | none => match bound hi len cap with
    | some b => match bound lo 0 b with
      | some a => if ex && cap == a then some (.fsl true sz []) else some (.sl l (off + a * sz) sz (b - a) (cap - a) ex)
      | none => none
    | none => none
  | some mv => match hi with
    | some hv => match bound (some mv) 0 cap with
      | some m => match bound (some hv) 0 m with
        | some b => match bound lo 0 b with
          | some a => if m = a then some (.fsl true sz []) else some (.sl l (off + a * sz) sz (b - a) (m - a) true)
          | none => none
        | none => none
      | none => none
    | none => none
def cutF (full : Bool) (sz : Nat) (es : List AV) (lo hi mx : Option AV) : Option AV :=
  match mx with
  | none => match bound hi es.length es.length with
    | some b => match bound lo 0 b with
      | some a => some (.fsl (full && b == es.length) sz ((es.take b).drop a))
      | none => none
    | none => none
  | some mv => match hi with
    | some hv => match bound (some mv) 0 es.length with
      | some m => match bound (some hv) 0 m with
        | some b => match bound lo 0 b with
          | some a => some (.fsl (b == m) sz ((es.take b).drop a))
          | none => none
        | none => none
      | none => none
    | none => none
def cutN (lo hi mx : Option AV) : Option AV :=
  match mx with
  | none => match bound hi 0 0 with
    | some b => match bound lo 0 b with
      | some _ => some .nils
      | none => none
    | none => none
  | some mv => match hi with
    | some hv => match bound (some mv) 0 0 with
      | some m => match bound (some hv) 0 m with
        | some b => match bound lo 0 b with
          | some _ => some .nils
          | none => none
        | none => none
      | none => none
    | none => none
def evQ (U : List (TypeId × TypeId)) (G : Nat → AV) (i : I) (e : Env) (h : H) : Option AV :=
  match i with
  | .mv x => some (x.ev G e)
  | .pick c a b => match c.ev G e with
    | .bool t => some (if t then a.ev G e else b.ev G e)
    | _ => none
  | .fad off x => match x.ev G e with
    | .ptr l o => some (.ptr l (o + off))
    | .fptr cs => some (.fptr (cs.drop off))
    | _ => none
  | .fld off n ag x => match x.ev G e with
    | .agg cs => match sub cs off n with
      | some r => mkV ag r
      | none => none
    | _ => none
  | .iad sz x i => match x.ev G e, i.ev G e with
    | .sl l off sz' len _ _, .int _ n => if sz' = sz ∧ 0 ≤ n ∧ n < len then some (.ptr l (off + n.toNat * sz)) else none
    | .fsl _ sz' es, .int _ n => if sz' = sz ∧ 0 ≤ n then match es[n.toNat]? with
        | some v => some (.fptr v.cells)
        | none => none
      else none
    | _, _ => none
  | .iadA k sz x i => match x.ev G e, i.ev G e with
    | .ptr l off, .int _ n => if 0 ≤ n ∧ n < k then some (.ptr l (off + n.toNat * sz)) else none
    | .fptr cs, .int _ n => if 0 ≤ n ∧ n < k then some (.fptr (cs.drop (n.toNat * sz))) else none
    | _, _ => none
  | .ixS x i => match x.ev G e, i.ev G e with
    | .str s, .int _ n => if 0 ≤ n then match s[n.toNat]? with
        | some b => some (.int .u8 b)
        | none => none
      else none
    | _, _ => none
  | .ixA k sz ag x i => match x.ev G e, i.ev G e with
    | .agg cs, .int _ n => if 0 ≤ n ∧ n < k then match sub cs (n.toNat * sz) sz with
        | some r => mkV ag r
        | none => none
      else none
    | _, _ => none
  | .ext x i => match x.ev G e with
    | .tup vs => vs[i]?
    | _ => none
  | .sS x lo hi => match x.ev G e with
    | .str s => match bound (hi.map (·.ev G e)) s.length s.length with
      | some b => match bound (lo.map (·.ev G e)) 0 b with
        | some a => some (.str ((s.take b).drop a))
        | none => none
      | none => none
    | _ => none
  | .sL sz x lo hi mx => match x.ev G e with
    | .nils => cutN (lo.map (·.ev G e)) (hi.map (·.ev G e)) (mx.map (·.ev G e))
    | .sl l off sz' len cap ex => if sz' = sz then cutO l off sz len cap ex (lo.map (·.ev G e)) (hi.map (·.ev G e)) (mx.map (·.ev G e)) else none
    | .fsl full sz' es => if sz' = sz then cutF full sz es (lo.map (·.ev G e)) (hi.map (·.ev G e)) (mx.map (·.ev G e)) else none
    | _ => none
  | .sA n sz x lo hi => match x.ev G e with
    | .ptr l off => match h.get l with
      | some (.cells cs _ _) => if off + n * sz ≤ cs.length then cutO l off sz n n true (lo.map (·.ev G e)) (hi.map (·.ev G e)) none else none
      | _ => none
    | _ => none
  | .nck x => match x.ev G e with
    | .ptr l o => some (.ptr l o)
    | .fptr cs => some (.fptr cs)
    | .fn f a b => some (.fn f a b)
    | _ => none
  | .bld zero ps => match fillC zero (evParts G e ps) with
    | some r => some (.agg r)
    | none => none
  | .bin op k x y => evBin h op k (x.ev G e) (y.ev G e)
  | .un op x => match op, x.ev G e with
    | .neg, .int k n => some (.int k (wr k (0 - n)))
    | .not, .bool b => some (.bool (!b))
    | _, _ => none
  | .cvI k x => match x.ev G e with
    | .int _ n => some (.int k (wr k n))
    | _ => none
  | .cvR x => match x.ev G e with
    | .int _ n => some (.str ((Utf8.encode n).data.toList.map UInt8.toNat))
    | _ => none
  | .cvB x => match x.ev G e with
    | .nils => some (.str [])
    | v => match srcOf h 1 v with
      | some (_, cs) => match bytesOf cs with
        | some l => some (.str l)
        | none => none
      | none => none
  | .cvP x => match x.ev G e with
    | .nilp => some .nilp
    | .ptr l off => match h.get l with
      | some (.cells cs _ _) => if off < cs.length then some (.ptr l off) else none
      | _ => none
    | _ => none
  | .cvQ u x => match x.ev G e with
    | .nilp => some .nilp
    | .ptr l 0 => match h.get l with
      | some (.cells cs t _) => if 2 ≤ cs.length ∧ U.contains (t, u) = true then some (.ptr l 0) else none
      | _ => none
    | _ => none
  | .mkI t x => some (.iface t (x.ev G e))
  | .mkF f a b => some (.fn f (evs G e a) (evs G e b))
  | .len k x => match k, x.ev G e with
    | 0, .str s => some (.int .i64 s.length)
    | 1, .nils => some (.int .i64 0)
    | 1, .sl _ _ _ len _ _ => some (.int .i64 len)
    | 1, .fsl _ _ es => some (.int .i64 es.length)
    | 2, .nilm => some (.int .i64 0)
    | 2, .map l => match h.get l with
      | some (.map es) => some (.int .i64 es.length)
      | _ => none
    | _, _ => none
  | .mn xs => match evs G e xs with
    | a :: r => foldO evMin a r
    | [] => none
  | .mx xs => match evs G e xs with
    | a :: r => foldO evMax a r
    | [] => none
  | .ld n ag x => match x.ev G e with
    | .ptr l off => match h.get l with
      | some (.cells cs _ _) => match sub cs off n with
        | some r => mkV ag r
        | none => none
      | _ => none
    | .fptr cs => match sub cs 0 n with
      | some r => mkV ag r
      | none => none
    | _ => none
  | .lk q zero ok m k => match m.ev G e with
    | .nilm => if keyOk q (k.ev G e) then some (if ok then .tup [zero, .bool false] else zero) else none
    | .map l => match h.get l with
      | some (.map es) => if keyOk q (k.ev G e) then match findK h q (k.ev G e) es 0 with
        | some (some (_, v)) => some (if ok then .tup [v, .bool true] else v)
        | some none => some (if ok then .tup [zero, .bool false] else zero)
        | none => none
        else none
      | _ => none
    | _ => none
  | .sd x => match x.ev G e with
    | .nils => some .nilp
    | .sl l off _ _ cap _ => if 0 < cap then some (.ptr l off) else none
    | _ => none
  | _ => none
def setK (k v : AV) : List (AV × AV) → Nat → List (AV × AV)
  | [], _ => []
  | (_, _) :: es, 0 => (k, v) :: es
  | x :: es, n + 1 => x :: setK k v es n
def putH : List AV → List AV → Option (List AV)
  | cs, [] => some cs
  | [], _ :: _ => none
  | _ :: cs, v :: vs => match putH cs vs with
    | some r => some (v :: r)
    | none => none
def putC (vs : List AV) : List AV → Nat → Option (List AV)
  | cs, 0 => putH cs vs
  | [], _ + 1 => none
  | c :: cs, n + 1 => match putC vs cs n with
    | some r => some (c :: r)
    | none => none
def over (cs : List AV) (off : Nat) (vs : List AV) : List AV := cs.take off ++ vs ++ cs.drop (off + vs.length)
def roomB : Nat := 140737488355328
def evApp (U : List (TypeId × TypeId)) (sz bytes : Nat) (t : TypeId) (s : AV) (m : Nat) (news : List AV) (h : H) : Option (AV × H) :=
  if m = 0 then match s with
    | .nils => some (.nils, h)
    | .sl l off sz' len cap ex => if sz' = sz then some (.sl l off sz' len cap ex, h) else none
    | .fsl full sz' es => some (.fsl full sz' es, h)
    | _ => none
  else match s with
    | .nils => if m * bytes ≤ roomB then some (.sl h.next 0 sz m m false, h.new (.cells news t (some 0))) else none
    | .fsl full sz' es => if full && sz' == sz && (es.length + m) * bytes ≤ roomB then some (.sl h.next 0 sz (es.length + m) (es.length + m) false, h.new (.cells (es.flatMap (·.cells) ++ news) t (some 0))) else none
    | .sl l off sz' len cap ex => if sz' = sz ∧ (len + m) * bytes ≤ roomB then
        match h.get l with
        | some (.cells cs t' (some fz)) =>
          if t' = t then
            if len + m ≤ cap then
              if off + (len + m) * sz ≤ cs.length ∧ fz ≤ off + len * sz then some (.sl l off sz (len + m) cap ex, h.set l (.cells (over cs (off + len * sz) news) t (some fz))) else none
            else match sub cs off (len * sz) with
              | some old =>
                if ex then some (.sl h.next 0 sz (len + m) (len + m) false, h.new (.cells (old ++ news) t (some 0)))
                else if fz ≤ off + len * sz ∧ (off = 0 ∨ U.all (fun p => p.1 != t) = true) then some (.sl h.next 0 sz (len + m) (len + m) false, (h.del l).new (.cells (old ++ news) t (some (fz - off))))
                else none
              | none => none
          else none
        | _ => none
      else none
    | _ => none
def evE (U : List (TypeId × TypeId)) (G : Nat → AV) (i : I) (e : Env) (h : H) : Option (AV × H) :=
  match i with
  | .new zero t => if zero.all (·.leaf) then some (.ptr h.next 0, h.new (.cells zero t (some 0))) else none
  | .box n t x => let v := x.ev G e
    if v.elt && v.cells.length == n && v.cells.all (·.leaf) then some (.ptr h.next 0, h.new (.cells v.cells t (some 0))) else none
  | .st n a x => let v := x.ev G e
    match a.ev G e with
    | .ptr l off => match h.get l with
      | some (.cells cs t (some fz)) =>
        if v.elt && v.cells.length == n && v.cells.all (·.leaf) && Nat.ble fz off then match putC v.cells cs off with
          | some cs' => some (.any, h.set l (.cells cs' t (some fz)))
          | none => none
        else none
      | _ => none
    | _ => none
  | .mkS sz bytes t zero n c => match n.ev G e, c.ev G e with
    | .int _ n, .int _ c => if 0 ≤ n ∧ n ≤ c ∧ c.toNat * bytes ≤ roomB ∧ zero.length = sz ∧ zero.all (·.leaf) then some (.sl h.next 0 sz n.toNat c.toNat true, h.new (.cells ((List.replicate c.toNat zero).flatten) t (some 0))) else none
    | _, _ => none
  | .bsl sz t zero n ps => match fillC ((List.replicate n zero).flatten) (evPartsL G e sz ps) with
    | some cs => if zero.length = sz ∧ zero.all (·.leaf) then some (.sl h.next 0 sz n n true, h.new (.cells cs t (some 0))) else none
    | none => none
  | .mkM => some (.map h.next, h.new (.map []))
  | .up q m k x => match m.ev G e with
    | .map l => match h.get l with
      | some (.map es) => let k := k.ev G e
        let v := x.ev G e
        if keyOk q k then match findK h q k es 0 with
          | some (some (i, _)) => some (.any, h.set l (.map (setK k v es i)))
          | some none => some (.any, h.set l (.map (es ++ [(k, v)])))
          | none => none
        else none
      | _ => none
    | _ => none
  | .ap sz bytes t s x => match srcOf h sz (x.ev G e) with
    | some (m, news) => evApp U sz bytes t (s.ev G e) m news h
    | none => none
  | .apS bytes t s x => match x.ev G e with
    | .str b => evApp U 1 bytes t (s.ev G e) b.length (b.map fun n : Nat => .int .u8 n) h
    | _ => none
  | .clr sz zero x => match x.ev G e with
    | .nils => some (.tup [], h)
    | .sl l off sz' len _ _ => if sz' = sz ∧ 0 < len ∧ zero.length = sz ∧ zero.all (·.leaf) then match h.get l with
        | some (.cells ds t (some fz)) => if off + len * sz ≤ ds.length ∧ fz ≤ off then some (.tup [], h.set l (.cells (over ds off ((List.replicate len zero).flatten)) t (some fz))) else none
        | _ => none
      else if sz' = sz ∧ len = 0 then some (.tup [], h) else none
    | _ => none
  | .cvS t x => match x.ev G e with
    | .str s => some (.sl h.next 0 1 s.length s.length false, h.new (.cells (s.map fun n : Nat => .int .u8 n) t none))
    | _ => none
  | .us u p n => match p.ev G e, n.ev G e with
    | .nilp, .int .i64 0 => some (.str [], h)
    | .ptr l off, .int .i64 n => if n = 0 then some (.str [], h) else if 0 < n ∧ n ≤ 9223372036854775807 then match h.get l with
        | some (.cells cs t fz) => if t = u then match sub cs off n.toNat with
            | some r => match bytesOf r with
              | some b => some (.str b, h.set l (.cells cs t (fz.map fun z => max z (off + n.toNat))))
              | none => none
            | none => none
          else none
        | _ => none
      else none
    | _, _ => none
  | _ => none
end Go.Eng
