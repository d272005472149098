/- The statement 'BlockTranslates' (zoetropelaw14.BlockTranslates): the operations of any words are as the document says; what is told is its owner's (of at most 20 words). No condition. -/
import Derived.Test.YtfckbimkdjcncaaRows
import Derived.Test.YtfckbimkdjcncaaYA17
import Derived.Test.YtfckbimkdjcncaaG5
import Derived.WalkKit
import Derived.ProofKit
set_option linter.unusedSimpArgs false
set_option linter.unusedVariables false
set_option maxRecDepth 100000
namespace Go.Proofs.Ytfckbimkdjcncaa.blockTranslates
open Go.ChangeShapes Go.WideShapes Go.ChangeAt Go.RowKit
theorem own : ownKnob Try.prog.godebug = none := by kernel_rfl
theorem laid : laidOutB Try.prog = true := by kernel_rfl
def sg : List (Bool × List Y.It) := [(false, [.sl 0])]
theorem cond : Y.forA 0 sg fun vs W => (Y.con_zoetropelaw14_BlockTranslates.run vs [] W).all fun y => y.1 = .v (.c (.b true)) := by
  intro n cap A l h1 h2 h3
  exact ⟨⟨h1, by omega, Y.wfSub (fun x hx => Y.wf0 (h3 x hx)) _ _⟩, fun _ => rfl⟩
theorem lifted (os : Os) (started : os.Started) (H : Type) (enc : TypeId × Value → H) :
    ReturnsInHanded {} Try.checked os 3 .any (Rows.blockTranslatesSpec.pre6 enc Try.prog Try.f3 Rows.blockTranslatesRow.domain false) (Rows.blockTranslatesSpec.post enc Try.prog Try.f3 false true false false) := by
  refine returnsInHanded_of_change (C := Try.checked) own started (by kernel_rfl) Try.func3
    (ChangeSpec.witness6 (enc := enc) (C := Try.checked) false ⟨#[], #[.slice none 0 0], []⟩ 8 (by kernel_rfl) (by kernel_rfl) (by kernel_rfl) (by kernel_rfl)) ?_
  intro W base args ds gs before hval hW hcnd _
  obtain ⟨p, q, hA, _⟩ := id hW
  refine (Y.law_calls Y.ok_zoetropelaw14_BlockTranslates (sg := sg) (by kernel_rfl) cond hA (fun j t v ht hv => hval j t v (by simpa using ht) (by simpa using hv))).mono fun e W' ⟨he, hb⟩ => ?_
  subst he
  exact ⟨_, rfl, Y.law_post laid rfl (by kernel_rfl) rfl Try.underlying4 (fun d hd => by match d, hd with | [_], _ => rfl) hW hb⟩
theorem over : Rows.blockTranslatesRow.holds Try.pinned (OpenSpec.ofChange Rows.blockTranslatesSpec) :=
  OpenClaim.holds_of_wide 3 Try.f3 rfl rfl rfl rfl rfl rfl rfl ⟨rfl, rfl, rfl, rfl, rfl⟩ rfl rfl rfl rfl rfl (by kernel_rfl) Try.func3 (by kernel_rfl)
    (of_decide_eq_true (by kernel_rfl)) (by unfold Func.isWrapper; first | (rw [if_pos (by decide +kernel)]; kernel_rfl) | (rw [if_neg (by decide +kernel)]; exact ⟨rfl, rfl⟩))
    (fun os started H enc _ => lifted os started H enc)
theorem proved : Rows.BlockTranslatesSaid := over
#print axioms proved
end Go.Proofs.Ytfckbimkdjcncaa.blockTranslates
