/- Closed facts of a row, together. -/
import Derived.Test.YtpimllnmacnfoaaGreatDoorK1f0
import Derived.Test.YtpimllnmacnfoaaGreatDoorK1f1
import Derived.Test.YtpimllnmacnfoaaGreatDoorK1f2
import Derived.Test.YtpimllnmacnfoaaGreatDoorK1f3
namespace Go.Proofs.YtpimllnmacnfoaaGreatDoor.storeNilLaw
open Go
theorem and2 {a b : Bool} (h : a = true) (k : b = true) : (a && b) = true := by rw [h, k]; rfl
theorem closed_of (P : Program) (f : FuncId) (fn : Func) (s : ChangeSpec) (c : OpenClaim)
    (h0 : (c.wf (OpenSpec.ofChange s) : Bool) = true)
    (h1 : (laidOutB P : Bool) = true)
    (h2 : (mapsRowed P : Bool) = true)
    (h3 : (fn.params.all (P.readableRec ·) : Bool) = true)
    (h4 : (namedTie P c.named s.vars : Bool) = true)
    (h5 : ((c.stops == []) : Bool) = true)
    (h6 : ((P.stops == []) : Bool) = true)
    (h7 : ((c.knobs == []) : Bool) = true)
    (h8 : ((P.stopKnobs == []) : Bool) = true)
    (h9 : ((c.inPlace == P.inPlace f) : Bool) = true)
    (h10 : ((c.unfollowed == P.unfollowed f) : Bool) = true)
    (h11 : ((c.recurses == P.recurses f) : Bool) = true)
    (h12 : ((c.named == P.varsNamed f) : Bool) = true)
    (h13 : ((c.maps == (fn.params.toList ++ s.plain.varTypes P).any (P.mapsRec ·)) : Bool) = true)
    (h14 : ((c.ifaces == (fn.params.toList ++ s.plain.varTypes P).any (P.ifacesRec ·)) : Bool) = true)
    (h15 : ((c.mapsOut == P.mapsAmong fn.resultTypes.toList) : Bool) = true)
    (h16 : ((c.loops == (fn.params.toList ++ s.plain.varTypes P).any (P.loopsFrom ·)) : Bool) = true)
    (h17 : ((c.wideKeys == (fn.params.toList ++ s.plain.varTypes P ++ fn.resultTypes.toList).any (P.wideKeysFrom ·)) : Bool) = true)
    (h18 : (s.vars.all (P.varReadable ·) : Bool) = true)
    (h19 : (fn.resultTypes.all (fun t => P.readableRec t && decide (t < P.types.size)) : Bool) = true)
    (h20 : ((c.ifacesOut == fn.resultTypes.toList.any (P.ifacesRec ·)) : Bool) = true)
    (h21 : ((c.loopsOut == fn.resultTypes.toList.any (P.loopsFrom ·)) : Bool) = true)
    (h22 : ((c.plainKeys == P.plainKeys) : Bool) = true)
    (h23 : (c.shortTexts.isNone : Bool) = true)
    (h24 : (P.stopsHeard : Bool) = true)
    (h25 : (P.mayEnter : Bool) = true)
    (h26 : ((c.lifted == P.liftsFinal) : Bool) = true)
    (h27 : ((P.make == some c.make) : Bool) = true)
    (h28 : ((c.kinds == (if c.domain.isEmpty then [] else fn.params.toList.map fun t => match P.underlying t with | some (.int k) => some k | _ => none)) : Bool) = true)
    (h29 : ((c.pinned == c.pinnedBy) : Bool) = true)
    (h30 : ((c.veiled == (fn.params.toList ++ s.plain.varTypes P ++ fn.resultTypes.toList).any (P.veiledRec ·)) : Bool) = true)
    (h31 : (c.veiledFits P fn.params.toList (fn.params.toList ++ s.plain.varTypes P ++ fn.resultTypes.toList) : Bool) = true)
    : joinedFacts P f fn s c = true := by
  unfold joinedFacts
  exact (and2 (and2 (and2 (and2 (and2 (and2 (and2 (and2 (and2 (and2 (and2 (and2 (and2 (and2 (and2 (and2 (and2 (and2 (and2 (and2 (and2 (and2 (and2 (and2 (and2 (and2 (and2 (and2 (and2 (and2 (and2 h0 h1) h2) h3) h4) h5) h6) h7) h8) h9) h10) h11) h12) h13) h14) h15) h16) h17) h18) h19) h20) h21) h22) h23) h24) h25) h26) h27) h28) h29) h30) h31)
set_option maxRecDepth 1000000 in
theorem closed : joinedFacts Tryz.prog 3 Tryz.f3 (Rows.OpenSpec.upto Rows.storeNilSpec).bare Rows.storeNilUptoRow = true :=
  closed_of Tryz.prog 3 Tryz.f3 _ _ fact0 fact1 fact2 fact3 fact4 fact5 fact6 fact7 fact8 fact9 fact10 fact11 fact12 fact13 fact14 fact15 fact16 fact17 fact18 fact19 fact20 fact21 fact22 fact23 fact24 fact25 fact26 fact27 fact28 fact29 fact30 fact31
end Go.Proofs.YtpimllnmacnfoaaGreatDoor.storeNilLaw
