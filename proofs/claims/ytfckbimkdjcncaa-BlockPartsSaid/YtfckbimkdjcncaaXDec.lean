/- Words as instructions, over the reckoner's forms: the plain side. -/
import Derived.Test.YtfckbimkdjcncaaXBlk
import Derived.Test.YtfckbimkdjcncaaZTrPlain
set_option linter.unusedSimpArgs false
set_option linter.unusedVariables false
namespace Go.X
open Go.Y
open Go.Z (U32 tab formOf formName formNames)
def tabT : List Tbl := tab.map fun r => ⟨r.nm.data.toList, r.f, r.M, r.m⟩
def formsT : List (List UInt8) := formNames.map fun x => x.data.toList
def formL (op : Int) : List UInt8 := (formOf op).data.toList
theorem tabT_get {k : Nat} (h : k < tab.length) (d : Tbl) : tabT.getD k d = ⟨tab[k].nm.data.toList, tab[k].f, tab[k].M, tab[k].m⟩ := by
  rw [List.getD_eq_getElem?_getD, tabT, List.getElem?_map, List.getElem?_eq_getElem h]
  rfl
theorem formsT_get {f : Int} (h : 0 ≤ f ∧ f < 19) (d : List UInt8) : formsT.getD f.toNat d = (formName f).data.toList := by
  have hl : f.toNat < formNames.length := by show f.toNat < 19; omega
  rw [List.getD_eq_getElem?_getD, formsT, List.getElem?_map, List.getElem?_eq_getElem hl, formName, List.getD_eq_getElem?_getD, List.getElem?_eq_getElem hl]
  rfl
theorem tabT_len : tabT.length = 69 := by rw [tabT, List.length_map, Z.tab_len]
theorem formsT_len : formsT.length = 19 := rfl
theorem formL_eq {op : Int} {b : ByteArray} : formL op = b.data.toList ↔ formOf op = b := by
  unfold formL
  refine ⟨fun h => ?_, fun h => by rw [h]⟩
  have h1 := Array.toList_inj.1 h
  cases hf : formOf op with
  | mk x => cases b with
    | mk y =>
      rw [hf] at h1
      exact congrArg ByteArray.mk h1
/-- what Decode hands back -/
def decI (w : Int) : Z.Ins := match Z.decOf w with
  | some k => Z.insOf w k
  | none => ⟨0, 0, 0, 0, 0, 0⟩
def decE (w : Int) : Int := match Z.decOf w with
  | some _ => 0
  | none => 40
def decB (w : Int) : Bool := (Z.decOf w).isSome
end Go.X
