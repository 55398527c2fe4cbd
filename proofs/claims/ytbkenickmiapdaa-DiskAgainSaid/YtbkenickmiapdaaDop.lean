/- DERIVED. The arguments of the laws on disks, opened. -/
import Derived.Test.YtbkenickmiapdaaArg
import Derived.Test.YtbkenickmiapdaaDm
namespace Go.Proofs.Ytbkenickmiapdaa
set_option linter.unusedVariables false
set_option linter.unusedSimpArgs false
set_option maxRecDepth 100000
open Go.RowKit Go.ChangeShapes Go.WideShapes Go.ChangeAt Go.Deep

theorem opU8 : Opens 5 kU8 := opens_u8 Try.underlying5
theorem opInt : Opens 3 (kInt .i64) := opens_int Try.underlying3
theorem opBool : Opens 4 kBool := opens_bool Try.underlying4
theorem opStr : Opens 9 kStr := opens_str Try.underlying9
theorem opU8s : Opens 22 (kSl kU8 1) := opens_sl Try.underlying22 (by kernel_rfl) (by decide) opU8
theorem opInts : Opens 23 (kSl (kInt .i64) 1) := opens_sl Try.underlying23 (by kernel_rfl) (by decide) opInt
theorem opBools : Opens 39 (kSl kBool 1) := opens_sl Try.underlying39 (by kernel_rfl) (by decide) opBool
theorem opU8ss : Opens 35 (kSl (kSl kU8 1) 1) := opens_sl Try.underlying35 (by kernel_rfl) (by decide) opU8s
theorem opIntss : Opens 24 (kSl (kSl (kInt .i64) 1) 1) := opens_sl Try.underlying24 (by kernel_rfl) (by decide) opInts

/-- A step. -/
structure StepV where
  kind : Int
  a : Nm
  b : Nm
  data : Sl UInt8
  keep : Sl Int
def StepV.cells (s : StepV) : List Value := [.int .i64 s.kind, .string ⟨s.a.toArray⟩, .string ⟨s.b.toArray⟩, s.data.val, s.keep.val]
structure StepV.Ok (w : World) (s : StepV) : Prop where
  kind : (Lit.int .i64 s.kind).wf = true
  a : s.a.length ≤ maxLen
  b : s.b.length ≤ maxLen
  data : (kSl kU8 1).is w s.data [s.data.val]
  keep : (kSl (kInt .i64) 1).is w s.keep [s.keep.val]
def kStep : Kd StepV := ⟨fun w s cs => cs = s.cells ∧ s.Ok w, fun h hb => ⟨h.1, h.2.kind, h.2.a, h.2.b, (kSl kU8 1).keep h.2.data hb, (kSl (kInt .i64) 1).keep h.2.keep hb⟩⟩
theorem opStep : Opens 49 kStep := fun {H enc W fuel cs x} h => by
  obtain ⟨hl, hf⟩ := opens_fields Try.underlying49 h
  obtain ⟨k, hk⟩ := hf 0 _ _ rfl opInt
  obtain ⟨a, ha⟩ := hf 1 _ _ rfl opStr
  obtain ⟨b, hb⟩ := hf 2 _ _ rfl opStr
  obtain ⟨d, hd⟩ := hf 3 _ _ rfl opU8s
  obtain ⟨e, he⟩ := hf 4 _ _ rfl opInts
  have hl : cs.length = 5 := hl
  match cs, hl with
  | [c0, c1, c2, c3, c4], _ =>
    have e0 : [c0] = _ := hk.1
    have e1 : [c1] = _ := ha.1
    have e2 : [c2] = _ := hb.1
    have e3 : [c3] = _ := hd.1
    have e4 : [c4] = _ := he.1
    injection e0 with e0
    injection e1 with e1
    injection e2 with e2
    injection e3 with e3
    injection e4 with e4
    subst e0; subst e1; subst e2; subst e3; subst e4
    exact ⟨⟨k, a, b, d, e⟩, rfl, hk.2, ha.2, hb.2, hd, he⟩
theorem opSteps : Opens 45 (kSl kStep 5) := opens_sl Try.underlying45 (by kernel_rfl) (by decide) opStep
end Go.Proofs.Ytbkenickmiapdaa
