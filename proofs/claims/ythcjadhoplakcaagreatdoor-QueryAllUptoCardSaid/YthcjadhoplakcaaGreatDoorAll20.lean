/- The law QueryAll of package grommetlaw24 answers true and turns no argument, for all arguments that are together of bulk at most 1048576; condition: the listed package variables start as the program's text lays them. (part 20.) -/
import Derived.Test.YthcjadhoplakcaaGreatDoorAll19
set_option linter.unusedSimpArgs false
set_option linter.unusedVariables false
set_option maxRecDepth 100000
set_option maxHeartbeats 2000000
namespace Go.Eng.Tryz
open Go.Eng Go.Proofs
theorem and_mk {a b : Bool} (h1 : a = true) (h2 : b = true) : (a && b) = true := by rw [h1, h2]; rfl
theorem cf_laid : laidOutB YthcjadhoplakcaaGreatDoor.Tryz.pinned.checked.prog = true := by kernel_rfl
theorem cf_maps : mapsRowed YthcjadhoplakcaaGreatDoor.Tryz.pinned.checked.prog = true := by kernel_rfl
theorem cf_stops : (YthcjadhoplakcaaGreatDoor.Tryz.pinned.checked.prog.stops == []) = true := by kernel_rfl
theorem cf_knobs : (YthcjadhoplakcaaGreatDoor.Tryz.pinned.checked.prog.stopKnobs == []) = true := by kernel_rfl
theorem cf_plain : (false == YthcjadhoplakcaaGreatDoor.Tryz.pinned.checked.prog.plainKeys) = true := by kernel_rfl
theorem cf_heard : YthcjadhoplakcaaGreatDoor.Tryz.pinned.checked.prog.stopsHeard = true := by kernel_rfl
theorem cf_enter : YthcjadhoplakcaaGreatDoor.Tryz.pinned.checked.prog.mayEnter = true := by kernel_rfl
theorem cf_lifted : (YthcjadhoplakcaaGreatDoor.Rows.queryMeetUptoRow.lifted == YthcjadhoplakcaaGreatDoor.Tryz.pinned.checked.prog.liftsFinal) = true := by kernel_rfl
theorem cf_make : (YthcjadhoplakcaaGreatDoor.Tryz.pinned.checked.prog.make == some YthcjadhoplakcaaGreatDoor.Rows.queryMeetUptoRow.make) = true := by kernel_rfl
theorem facts_of {f : FuncId} {fn : Func} {s : ChangeSpec} {c : OpenClaim} (h1 : c.wf (OpenSpec.ofChange s) = true) (h4 : fn.params.all (YthcjadhoplakcaaGreatDoor.Tryz.pinned.checked.prog.readableRec ·) = true) (h5 : namedTie YthcjadhoplakcaaGreatDoor.Tryz.pinned.checked.prog c.named s.vars = true) (h6 : (c.stops == []) = true) (h8 : (c.knobs == []) = true)
    (h10 : (c.inPlace == YthcjadhoplakcaaGreatDoor.Tryz.pinned.checked.prog.inPlace f) = true) (h11 : (c.unfollowed == YthcjadhoplakcaaGreatDoor.Tryz.pinned.checked.prog.unfollowed f) = true) (h12 : (c.recurses == YthcjadhoplakcaaGreatDoor.Tryz.pinned.checked.prog.recurses f) = true) (h13 : (c.named == YthcjadhoplakcaaGreatDoor.Tryz.pinned.checked.prog.varsNamed f) = true)
    (h14 : ((c.maps == (fn.params.toList ++ s.plain.varTypes YthcjadhoplakcaaGreatDoor.Tryz.pinned.checked.prog).any (YthcjadhoplakcaaGreatDoor.Tryz.pinned.checked.prog.mapsRec ·))) = true) (h15 : (c.ifaces == (fn.params.toList ++ s.plain.varTypes YthcjadhoplakcaaGreatDoor.Tryz.pinned.checked.prog).any (YthcjadhoplakcaaGreatDoor.Tryz.pinned.checked.prog.ifacesRec ·)) = true) (h16 : (c.mapsOut == YthcjadhoplakcaaGreatDoor.Tryz.pinned.checked.prog.mapsAmong fn.resultTypes.toList) = true)
    (h17 : (c.loops == (fn.params.toList ++ s.plain.varTypes YthcjadhoplakcaaGreatDoor.Tryz.pinned.checked.prog).any (YthcjadhoplakcaaGreatDoor.Tryz.pinned.checked.prog.loopsFrom ·)) = true) (h17b : (c.wideKeys == (fn.params.toList ++ s.plain.varTypes YthcjadhoplakcaaGreatDoor.Tryz.pinned.checked.prog ++ fn.resultTypes.toList).any (YthcjadhoplakcaaGreatDoor.Tryz.pinned.checked.prog.wideKeysFrom ·)) = true)
    (h18 : s.vars.all (YthcjadhoplakcaaGreatDoor.Tryz.pinned.checked.prog.varReadable ·) = true) (h19 : fn.resultTypes.all (fun t => YthcjadhoplakcaaGreatDoor.Tryz.pinned.checked.prog.readableRec t && decide (t < YthcjadhoplakcaaGreatDoor.Tryz.pinned.checked.prog.types.size)) = true) (h20 : (c.ifacesOut == fn.resultTypes.toList.any (YthcjadhoplakcaaGreatDoor.Tryz.pinned.checked.prog.ifacesRec ·)) = true) (h21 : (c.loopsOut == fn.resultTypes.toList.any (YthcjadhoplakcaaGreatDoor.Tryz.pinned.checked.prog.loopsFrom ·)) = true)
    (h22 : (c.plainKeys == YthcjadhoplakcaaGreatDoor.Tryz.pinned.checked.prog.plainKeys) = true) (h23 : c.shortTexts.isNone = true) (h24b : (c.lifted == YthcjadhoplakcaaGreatDoor.Tryz.pinned.checked.prog.liftsFinal) = true) (h24c : (YthcjadhoplakcaaGreatDoor.Tryz.pinned.checked.prog.make == some c.make) = true)
    (h25 : (c.kinds == (if c.domain.isEmpty then [] else fn.params.toList.map fun t => match YthcjadhoplakcaaGreatDoor.Tryz.pinned.checked.prog.underlying t with | some (.int k) => some k | _ => none)) = true) (h26 : (c.pinned == c.pinnedBy) = true)
    (h27 : (c.veiled == (fn.params.toList ++ s.plain.varTypes YthcjadhoplakcaaGreatDoor.Tryz.pinned.checked.prog ++ fn.resultTypes.toList).any (YthcjadhoplakcaaGreatDoor.Tryz.pinned.checked.prog.veiledRec ·)) = true) (h28 : c.veiledFits YthcjadhoplakcaaGreatDoor.Tryz.pinned.checked.prog fn.params.toList (fn.params.toList ++ s.plain.varTypes YthcjadhoplakcaaGreatDoor.Tryz.pinned.checked.prog ++ fn.resultTypes.toList) = true) : joinedFacts YthcjadhoplakcaaGreatDoor.Tryz.pinned.checked.prog f fn s c = true := by
  unfold joinedFacts
  simp only [Bool.and_eq_true]
  exact ⟨⟨⟨⟨⟨⟨⟨⟨⟨⟨⟨⟨⟨⟨⟨⟨⟨⟨⟨⟨⟨⟨⟨⟨⟨⟨⟨⟨⟨⟨⟨h1, cf_laid⟩, cf_maps⟩, h4⟩, h5⟩, h6⟩, cf_stops⟩, h8⟩, cf_knobs⟩, h10⟩, h11⟩, h12⟩, h13⟩, h14⟩, h15⟩, h16⟩, h17⟩, h17b⟩, h18⟩, h19⟩, h20⟩, h21⟩, h22⟩, h23⟩, cf_heard⟩, cf_enter⟩, h24b⟩, h24c⟩, h25⟩, h26⟩, h27⟩, h28⟩
theorem cf_looks : true = YthcjadhoplakcaaGreatDoor.Tryz.pinned.checked.prog.looks [] := by kernel_rfl
end Go.Eng.Tryz
