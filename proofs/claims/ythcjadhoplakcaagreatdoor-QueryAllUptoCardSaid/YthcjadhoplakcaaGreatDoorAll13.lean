/- The law QueryAll of package grommetlaw24 answers true and turns no argument, for all arguments that are together of bulk at most 1048576; condition: the listed package variables start as the program's text lays them. (part 13.) -/
import Derived.Test.YthcjadhoplakcaaGreatDoorAll12
import Derived.Shelf.Strings.SlTrimAscii
set_option linter.unusedSimpArgs false
set_option linter.unusedVariables false
set_option maxRecDepth 20000
namespace Go.Eng.Tryz
open Go.Eng Go.Proofs Go.RowKit
def toB (s : List Nat) : ByteArray := ⟨(s.map UInt8.ofNat).toArray⟩
def toL (s : List Nat) : List UInt8 := s.map UInt8.ofNat
def ofB (l : List UInt8) : List Nat := l.map UInt8.toNat
theorem toL_of {l : List UInt8} {s : List Nat} (h : l.map UInt8.toNat = s) : l = toL s := by
  subst h
  unfold toL
  rw [List.map_map]
  conv => lhs; rw [← List.map_id l]
  apply List.map_congr_left
  intro x _
  simp
theorem toB_of {b : ByteArray} {s : List Nat} (h : b.data.toList.map UInt8.toNat = s) : b = toB s := by
  have := toL_of h
  obtain ⟨⟨l⟩⟩ := b
  simp only at this h
  simp only [toB, this]
  rfl
theorem toB_list (s : List Nat) : (toB s).data.toList = toL s := rfl
theorem toB_size (s : List Nat) : (toB s).size = s.length := by
  show (s.map UInt8.ofNat).toArray.size = _
  simp
theorem VR_ofB (st : St) (w : World) (l : List UInt8) : VR st w (.str (ofB l)) (.string ⟨l.toArray⟩) := by
  simp only [VR]
  exact ⟨_, rfl, rfl⟩
theorem ofB_toL {s : List Nat} (h : Bytes s) : ofB (toL s) = s := by
  unfold ofB toL
  rw [List.map_map]
  conv => rhs; rw [← List.map_id s]
  apply List.map_congr_left
  intro x hx
  have := h x hx
  simp; omega
theorem open1 {st : St} {w : World} {x : AV} {vs : Array Value} (h : VRs st w [x] vs.toList) : ∃ v, vs = #[v] ∧ VR st w x v := by
  simp only [VRs] at h
  obtain ⟨r, rs, h1, h2, h3⟩ := h
  subst h3
  obtain ⟨l⟩ := vs
  simp only at h1
  subst h1
  exact ⟨r, rfl, h2⟩
theorem open2 {st : St} {w : World} {x y : AV} {vs : Array Value} (h : VRs st w [x, y] vs.toList) : ∃ v u, vs = #[v, u] ∧ VR st w x v ∧ VR st w y u := by
  simp only [VRs] at h
  obtain ⟨r, rs, h1, h2, r', rs', h3, h4, h5⟩ := h
  subst h5; subst h3
  obtain ⟨l⟩ := vs
  simp only at h1
  subst h1
  exact ⟨r, r', rfl, h2, h4⟩
theorem openS {st : St} {w : World} {s : List Nat} {v : Value} (h : VR st w (.str s) v) : v = .string (toB s) := by
  obtain ⟨b, h1, h2⟩ := VR_str h
  rw [h1, toB_of h2]
theorem openI {st : St} {w : World} {k : IntKind} {n : Int} {v : Value} (h : VR st w (.int k n) v) : v = .int k n := VR_int h
theorem below_grow (w : World) (os : Array Obj) : Below w.heap.size w (Go.Sort.grow w os) := by
  refine ⟨rfl, rfl, rfl, ?_, fun k hk => ?_⟩
  · show w.heap.size ≤ (w.heap ++ os).size
    simp
  · show (w.heap ++ os)[k]? = _
    rw [Array.getElem?_append_left hk]
theorem below_bytes (w : World) (e : TypeId) (t : ByteArray) : Below w.heap.size w (Lib.bytesWorld w e t) := ⟨rfl, rfl, rfl, by rw [Lib.bytesWorld_size]; omega, fun j hj => Lib.bytesWorld_at_old w e t j hj⟩
theorem below_drewN (w : World) (k : Nat) : Below w.heap.size w (w.drewN k) := ⟨rfl, rfl, rfl, Nat.le_refl _, fun _ _ => rfl⟩
/-! ### numbers' texts -/
def itoa (n : Int) : List Nat := ofB (Lib.itoa n)
theorem pow10_eq : pow10L = Lib.pow10Tab := by kernel_rfl
theorem itoa_ok (n : Int) (h0 : -9223372036854775808 ≤ n) (h1 : n ≤ 9223372036854775807) : Puv 116 [.int .i64 n] (.str (itoa n)) := by
  refine PureV.of_calls (HasBody.of Go.Proofs.Tryz.func116 (by kernel_rfl) (by kernel_rfl)) fun s w vs hG hvs => ?_
  obtain ⟨v, rfl, hv⟩ := open1 hvs
  rw [openI hv]
  obtain ⟨t, fr, hg⟩ := GlobR.table hG (g := 0) (k := .u64) (zs := pow10L) rfl
  have htab : Lib.TabIs Go.Proofs.Tryz.prog w "internal/strconv.uint64pow10" .u64 Lib.pow10Tab := by
    unfold Lib.TabIs World.var?
    rw [show Go.Proofs.Tryz.prog.globalNamed "internal/strconv.uint64pow10" = some 0 by kernel_rfl]
    simp only [Option.bind_some, hg, pow10_eq]
  refine (Go.Proofs.Tryz.strconv_Itoa n h0 h1 w htab).mono ?_
  rintro e w' ⟨rfl, k, os, rfl⟩
  exact ⟨_, rfl, (below_drewN w k).trans (below_grow (w.drewN k) os), fun s' w' => VR_ofB _ _ _⟩
def atoiV (s : List Nat) : AV := match Lib.atoiAll (toL s) with
  | .ok n => .tup [.int .i64 n, .nili]
  | .range => .tup [.int .i64 (Lib.atoiSat (toL s)), .iface 331 .any]
  | _ => .tup [.int .i64 0, .iface 331 .any]
theorem atoi_ok (s : List Nat) (hl : s.length ≤ 281474976710656) : Puv 184 [.str s] (atoiV s) := by
  refine PureV.of_calls (HasBody.of Go.Proofs.Tryz.func184 (by kernel_rfl) (by kernel_rfl)) fun st w vs hG hvs => ?_
  obtain ⟨v, rfl, hv⟩ := open1 hvs
  rw [openS hv]
  have hsz := toB_size s
  have err : ∀ g, G0 g = .fptr [.iface 367 .any] → ∃ ev, w.cell? ⟨g, 0, none⟩ = some ev ∧ (ev = .nilIface ∨ ∃ te pe, ev = .iface te pe) := by
    intro g hg
    have h1 := hG.val g
    rw [hg] at h1
    simp only [VR, VRs] at h1
    obtain ⟨a, rs, h2, ⟨r, rs', h3, ⟨y, h4, _⟩, h5⟩, h6, _⟩ := h1
    injection h2 with h2; injection h2 with h2; subst h2
    subst h5; subst h3
    exact ⟨r, by simpa [Addr.add] using h6 0 r rfl, .inr ⟨_, _, h4⟩⟩
  cases hat : Lib.atoiAll (toL s) with
  | ok n =>
    refine (Go.Proofs.Tryz.strconv_Atoi_ok (toB s) (by omega) n (by rw [toB_list]; exact hat) w).mono ?_
    rintro e w' ⟨rfl, hw⟩
    refine ⟨_, rfl, ?_, fun s' w' => ?_⟩
    · rcases hw with rfl | ⟨t, rfl⟩
      · exact Below.refl _ _
      · exact below_bytes _ _ _
    · simp only [atoiV, hat, VR, VRs]
      exact ⟨_, rfl, _, _, rfl, rfl, _, _, rfl, rfl, rfl⟩
  | range =>
    obtain ⟨ev, h1, h2⟩ := err 2 rfl
    refine (Go.Proofs.Tryz.strconv_Atoi_range (toB s) (by omega) (by rw [toB_list]; exact hat) ev w h1 h2).mono ?_
    rintro e w' ⟨N, rfl, _, _, hw⟩
    refine ⟨_, rfl, hw, fun s' w' => ?_⟩
    simp only [atoiV, hat, VR, VRs]
    exact ⟨_, rfl, _, _, rfl, rfl, _, _, rfl, ⟨_, rfl, trivial⟩, rfl⟩
  | _ =>
    obtain ⟨ev, h1, h2⟩ := err 1 rfl
    refine (Go.Proofs.Tryz.strconv_Atoi_syntax (toB s) (by omega) (fun n hn => by rw [toB_list, hat] at hn; cases hn) (fun hn => by rw [toB_list, hat] at hn; cases hn) ev w h1 h2).mono ?_
    rintro e w' ⟨N, rfl, _, _, hw⟩
    refine ⟨_, rfl, hw, fun s' w' => ?_⟩
    simp only [atoiV, hat, VR, VRs]
    exact ⟨_, rfl, _, _, rfl, rfl, _, _, rfl, ⟨_, rfl, trivial⟩, rfl⟩
/-! ### signs -/
def decR (s : List Nat) : Nat × Nat := Lib.decodeGo (toB s)
theorem first_eq : firstL = (List.range 256).map fun c => ((Lib.firstT c : Nat) : Int) := by kernel_rfl
theorem accept_eq : acceptL = (List.range 16).flatMap fun i => [((Lib.accLo i : Nat) : Int), ((Lib.accHi i : Nat) : Int)] := by kernel_rfl
theorem dec_ok (s : List Nat) : Puv 222 [.str s] (.tup [.int .i32 (decR s).1, .int .i64 (decR s).2]) := by
  refine PureV.of_calls (HasBody.of Go.Proofs.Tryz.func222 (by kernel_rfl) (by kernel_rfl)) fun st w vs hG hvs => ?_
  obtain ⟨v, rfl, hv⟩ := open1 hvs
  rw [openS hv]
  obtain ⟨t4, fr4, h4⟩ := GlobR.table hG (g := 4) (k := .u8) (zs := firstL) rfl
  obtain ⟨t5, fr5, h5⟩ := GlobR.table hG (g := 5) (k := .u8) (zs := acceptL) rfl
  have hT : Lib.Utf8Tabs 4 5 w := by
    refine ⟨fun c hc => ?_, fun i hi => ?_⟩
    · simp only [World.cell?, h4]
      have : firstL[c]? = some ((Lib.firstT c : Nat) : Int) := by rw [first_eq]; simp [hc]
      simp [this]
    · simp only [World.cell?, h5]
      have h6 : ∀ i, i < 16 → acceptL[2 * i]? = some ((Lib.accLo i : Nat) : Int) ∧ acceptL[2 * i + 1]? = some ((Lib.accHi i : Nat) : Int) := by
        intro i hi
        have : ∀ i : Fin 16, acceptL[2 * i.val]? = some ((Lib.accLo i.val : Nat) : Int) ∧ acceptL[2 * i.val + 1]? = some ((Lib.accHi i.val : Nat) : Int) := by decide
        exact this ⟨i, hi⟩
      obtain ⟨h7, h8⟩ := h6 i hi
      simp [h7, h8]
  refine (Go.Proofs.Tryz.utf8_DecodeRuneInString (toB s) w hT).mono ?_
  rintro e w' ⟨rfl, hw⟩
  refine ⟨_, rfl, hw, fun s' w' => ?_⟩
  simp only [VR, VRs]
  exact ⟨_, rfl, _, _, rfl, rfl, _, _, rfl, rfl, rfl⟩
/-! ### texts -/
theorem repeat_ok (s : List Nat) (c : Nat) (hc : c ≤ 9223372036854775807) (hl : s.length * c ≤ 140737488355328) : Puv 255 [.str s, .int .i64 c] (.str (ofB (Lib.repeatL (toL s) c))) := by
  refine PureV.of_calls (HasBody.of Go.Proofs.Tryz.func255 (by kernel_rfl) (by kernel_rfl)) fun st w vs hG hvs => ?_
  obtain ⟨v, u, rfl, hv, hu⟩ := open2 hvs
  rw [openS hv, openI hu]
  refine (Go.Proofs.Tryz.strings_Repeat (toB s) c w hc (by rw [toB_size]; exact hl)).mono ?_
  rintro e w' ⟨rfl, hw⟩
  exact ⟨_, rfl, hw, fun s' w' => VR_ofB _ _ _⟩
theorem indexByte_ok (s : List Nat) (c : Int) : Puv 187 [.str s, .int .u8 c] (.int .i64 (Lib.indexByte (toL s) c.toNat.toUInt8)) := by
  refine PureV.of_calls (HasBody.of Go.Proofs.Tryz.func187 (by kernel_rfl) (by kernel_rfl)) fun st w vs hG hvs => ?_
  obtain ⟨v, u, rfl, hv, hu⟩ := open2 hvs
  rw [openS hv, openI hu]
  refine (Go.Proofs.Tryz.strings_IndexByte (toB s) c w).mono ?_
  rintro e w' ⟨rfl, rfl⟩
  exact ⟨_, rfl, Below.refl _ _, fun s' w' => by simp only [VR, toB_list]⟩
theorem trim_ok (s c : List Nat) (hs : s.length ≤ 9223372036854775807) (hc : c.length < 4294967281) (ha : ∀ x ∈ c, x < 128) : Puv 157 [.str s, .str c] (.str (ofB (Lib.trimS (toL s) (toL c)))) := by
  refine PureV.of_calls (HasBody.of Go.Proofs.Tryz.func157 (by kernel_rfl) (by kernel_rfl)) fun st w vs hG hvs => ?_
  obtain ⟨v, u, rfl, hv, hu⟩ := open2 hvs
  rw [openS hv, openS hu]
  refine (Any.strings_Trim_laid Go.Proofs.Tryz.lays160 (by kernel_rfl) (toB s) (toB c) w (by rw [toB_size]; exact hs) (by rw [toB_size]; exact hc) (fun j b hb => ?_)).mono ?_
  · rw [toB_list] at hb
    obtain ⟨x, hx, rfl⟩ := List.mem_map.1 (List.mem_of_getElem? hb)
    have := ha x hx
    simp; omega
  · rintro e w' ⟨rfl, hw⟩
    exact ⟨_, rfl, hw, fun s' w' => by rw [toB_list, toB_list]; exact VR_ofB _ _ _⟩
end Go.Eng.Tryz
