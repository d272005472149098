/- The statement 'BlockParts' (zoetropelaw14.BlockParts): operations in two parts do what all of them do; those up to no instruction do nothing; Count is each one's place (of at most 16 words). No condition. -/
import Derived.Test.YtfckbimkdjcncaaRows
import Derived.Test.YtfckbimkdjcncaaYA10
import Derived.Test.YtfckbimkdjcncaaYRow
import Derived.WalkKit
import Derived.ProofKit
set_option linter.unusedSimpArgs false
set_option linter.unusedVariables false
set_option maxRecDepth 100000
namespace Go.Proofs.Ytfckbimkdjcncaa.blockParts
open Go.ChangeShapes Go.WideShapes Go.ChangeAt Go.RowKit
theorem own : ownKnob Try.prog.godebug = none := by kernel_rfl
theorem laid : laidOutB Try.prog = true := by kernel_rfl
def sg : List (Bool × List Y.It) := [(false, [.sl 0]), (true, [.ar 0 32]), (false, [.i .i64])]
theorem cond : Y.forA 0 sg fun vs W => (Y.con_zoetropelaw14_BlockParts.run vs [] W).all fun y => y.1 = .v (.c (.b true)) := by
  intro n cap A l h1 h2 h3 r hr hr2 c hc
  exact ⟨⟨h1, by omega, Y.wfSub (fun x hx => Y.wf0 (h3 x hx)) _ _, Y.wfRegs hr hr2⟩, fun _ => rfl⟩
theorem lifted (os : Os) (started : os.Started) (H : Type) (enc : TypeId × Value → H) :
    ReturnsInHanded {} Try.checked os 6 .any (Rows.blockPartsSpec.pre6 enc Try.prog Try.f6 Rows.blockPartsRow.domain false) (Rows.blockPartsSpec.post enc Try.prog Try.f6 false true false false) := by
  refine returnsInHanded_of_change (C := Try.checked) own started (by kernel_rfl) Try.func6
    (ChangeSpec.witness6 (enc := enc) (C := Try.checked) false ⟨#[], #[.slice none 0 0, .agg #[.int .u32 0, .int .u32 0, .int .u32 0, .int .u32 0, .int .u32 0, .int .u32 0, .int .u32 0, .int .u32 0, .int .u32 0, .int .u32 0, .int .u32 0, .int .u32 0, .int .u32 0, .int .u32 0, .int .u32 0, .int .u32 0, .int .u32 0, .int .u32 0, .int .u32 0, .int .u32 0, .int .u32 0, .int .u32 0, .int .u32 0, .int .u32 0, .int .u32 0, .int .u32 0, .int .u32 0, .int .u32 0, .int .u32 0, .int .u32 0, .int .u32 0, .int .u32 0], .int .i64 0], []⟩ 8 (by kernel_rfl) (by kernel_rfl) (by kernel_rfl) (by kernel_rfl)) ?_
  intro W base args ds gs before hval hW hcnd _
  obtain ⟨p, q, hA, _⟩ := id hW
  refine (Y.law_calls Y.ok_zoetropelaw14_BlockParts (sg := sg) (by kernel_rfl) cond hA (fun j t v ht hv => hval j t v (by simpa using ht) (by simpa using hv))).mono fun e W' ⟨he, hb⟩ => ?_
  subst he
  exact ⟨_, rfl, Y.law_post laid rfl (by kernel_rfl) rfl Try.underlying4 (fun d hd => by match d, hd with | [_, _, _], _ => rfl) hW hb⟩
theorem over : Rows.blockPartsRow.holds Try.pinned (OpenSpec.ofChange Rows.blockPartsSpec) :=
  OpenClaim.holds_of_wide 6 Try.f6 rfl rfl rfl rfl rfl rfl rfl ⟨rfl, rfl, rfl, rfl, rfl⟩ rfl rfl rfl rfl rfl (by kernel_rfl) Try.func6 (by kernel_rfl)
    (of_decide_eq_true (by kernel_rfl)) (by unfold Func.isWrapper; first | (rw [if_pos (by decide +kernel)]; kernel_rfl) | (rw [if_neg (by decide +kernel)]; exact ⟨rfl, rfl⟩))
    (fun os started H enc _ => lifted os started H enc)
theorem proved : Rows.BlockPartsSaid := over
#print axioms proved
end Go.Proofs.Ytfckbimkdjcncaa.blockParts
