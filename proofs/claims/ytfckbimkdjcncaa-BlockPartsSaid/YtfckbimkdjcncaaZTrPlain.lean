/- One instruction's operation: the plain side. -/
import Derived.Test.YtfckbimkdjcncaaZDecPlain
import Derived.Test.YtfckbimkdjcncaaZBlkPlain
set_option linter.unusedSimpArgs false
set_option linter.unusedVariables false
namespace Go.Z
def oneM (i : Ins) : Mic :=
  if formOf i.op = ⟨#[83, 72]⟩ then ⟨kindOf i.op, i.rd, i.rt, 32, i.sa % 4294967296, 0⟩
  else if formOf i.op = ⟨#[83, 86]⟩ then ⟨kindOf i.op, i.rd, i.rt, i.rs, 0, 0⟩
  else if formOf i.op = ⟨#[73]⟩ ∨ formOf i.op = ⟨#[73, 85]⟩ then ⟨kindOf i.op, i.rt, i.rs, 32, i.imm % 4294967296, 0⟩
  else if formOf i.op = ⟨#[76, 85, 73]⟩ then ⟨kindOf i.op, i.rt, 0, 0, i.imm % 4294967296 * 65536 % 4294967296, 0⟩
  else ⟨kindOf i.op, i.rd, i.rs, i.rt, 0, 0⟩
def oneOf (i : Ins) : Mic := if (oneM i).d = 0 then ⟨0, 0, 0, 0, 0, 0⟩ else oneM i
theorem oneSH {i : Ins} (h : formOf i.op = ⟨#[83, 72]⟩) : oneM i = ⟨kindOf i.op, i.rd, i.rt, 32, i.sa % 4294967296, 0⟩ := if_pos h
theorem oneSV {i : Ins} (h0 : ¬ formOf i.op = ⟨#[83, 72]⟩) (h : formOf i.op = ⟨#[83, 86]⟩) : oneM i = ⟨kindOf i.op, i.rd, i.rt, i.rs, 0, 0⟩ := by rw [oneM, if_neg h0, if_pos h]
theorem oneI {i : Ins} (h0 : ¬ formOf i.op = ⟨#[83, 72]⟩) (h1 : ¬ formOf i.op = ⟨#[83, 86]⟩) (h : formOf i.op = ⟨#[73]⟩ ∨ formOf i.op = ⟨#[73, 85]⟩) : oneM i = ⟨kindOf i.op, i.rt, i.rs, 32, i.imm % 4294967296, 0⟩ := by
  rw [oneM, if_neg h0, if_neg h1, if_pos h]
theorem oneL {i : Ins} (h0 : ¬ formOf i.op = ⟨#[83, 72]⟩) (h1 : ¬ formOf i.op = ⟨#[83, 86]⟩) (h2 : ¬ (formOf i.op = ⟨#[73]⟩ ∨ formOf i.op = ⟨#[73, 85]⟩)) (h : formOf i.op = ⟨#[76, 85, 73]⟩) :
    oneM i = ⟨kindOf i.op, i.rt, 0, 0, i.imm % 4294967296 * 65536 % 4294967296, 0⟩ := by rw [oneM, if_neg h0, if_neg h1, if_neg h2, if_pos h]
theorem oneR {i : Ins} (h0 : ¬ formOf i.op = ⟨#[83, 72]⟩) (h1 : ¬ formOf i.op = ⟨#[83, 86]⟩) (h2 : ¬ (formOf i.op = ⟨#[73]⟩ ∨ formOf i.op = ⟨#[73, 85]⟩)) (h : ¬ formOf i.op = ⟨#[76, 85, 73]⟩) :
    oneM i = ⟨kindOf i.op, i.rd, i.rs, i.rt, 0, 0⟩ := by rw [oneM, if_neg h0, if_neg h1, if_neg h2, if_neg h]
theorem one_no {i : Ins} {m : Mic} (hm : oneM i = m) (hd : m.d = 0) : oneOf i = ⟨0, 0, 0, 0, 0, 0⟩ := by rw [oneOf, if_pos (by rw [hm]; exact hd)]
theorem one_yes {i : Ins} {m : Mic} (hm : oneM i = m) (hd : ¬ m.d = 0) : oneOf i = m := by rw [oneOf, if_neg (by rw [hm]; exact hd), hm]
end Go.Z
