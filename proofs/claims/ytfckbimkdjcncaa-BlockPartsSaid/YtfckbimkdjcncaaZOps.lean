/- One law an operation: what it hands back where its operands are known. Generic in the program. -/
import Derived.WalkKit
import Derived.Deep.Quiet
import Derived.Test.YtfckbimkdjcncaaZCore
set_option linter.unusedSimpArgs false
set_option linter.unusedVariables false
namespace Go.Z
section
variable {P : Program} {c : Cx} {ops : Array Oper} {Q : Exit → Act → World → Prop} {N : Nat} {e : Env} {H : List Blk} {rest : List Oper} {d : Nat} {t : TypeId} {p : String} {af : Array Edge}
theorem TL.move {x : Operand} {v : Value} (hx : ev e x = some v) (hd : Nat.blt d N = true) (h : TL P c ops Q N rest (upd e d v) H) :
    TL P c ops Q N (⟨some d, .move x, t, p, af, none⟩ :: rest) e H := TL.value' hd (fun a w ha _ => by simp [execOp, ha.ev hx]) h
theorem TL.assign {x : Operand} {v : Value} (hx : ev e x = some v) (hd : Nat.blt d N = true) (h : TL P c ops Q N rest (upd e d v) H) :
    TL P c ops Q N (⟨some d, .assign x, t, p, af, none⟩ :: rest) e H := TL.value' hd (fun a w ha _ => by simp [execOp, ha.ev hx]) h
theorem TL.pick {x y z : Operand} {b : Bool} {u v r : Value} (hx : ev e x = some (.bool b)) (hy : ev e y = some u) (hz : ev e z = some v) (hd : Nat.blt d N = true) (hr : (if b then u else v) = r)
    (h : TL P c ops Q N rest (upd e d r) H) : TL P c ops Q N (⟨some d, .pick x y z, t, p, af, none⟩ :: rest) e H :=
  TL.value' hd (fun a w ha _ => by simp [execOp, ha.ev hx, ha.ev hy, ha.ev hz, asBool, ← hr]) h
theorem TL.not {x : Operand} {b : Bool} {xt : TypeId} (hx : ev e x = some (.bool b)) (hd : Nat.blt d N = true) (h : TL P c ops Q N rest (upd e d (.bool (!b))) H) :
    TL P c ops Q N (⟨some d, .unOp .not xt x, t, p, af, none⟩ :: rest) e H := TL.value' hd (fun a w ha _ => by simp [execOp, ha.ev hx, Op.unary]) h
theorem TL.neg {x : Operand} {k : IntKind} {m r : Int} {xt : TypeId} (hx : ev e x = some (.int k m)) (hd : Nat.blt d N = true) (hr : k.wrap (0 - m) = r) (h : TL P c ops Q N rest (upd e d (.int k r)) H) :
    TL P c ops Q N (⟨some d, .unOp .neg xt x, t, p, af, none⟩ :: rest) e H := TL.value' hd (fun a w ha _ => by simp [execOp, ha.ev hx, Op.unary, Op.intArith]; rw [← hr]; congr 1; omega) h
theorem TL.compl {x : Operand} {k : IntKind} {m r : Int} {xt : TypeId} (hx : ev e x = some (.int k m)) (hd : Nat.blt d N = true) (hr : bits .xor k (if k.signed then -1 else k.max) m = r) (h : TL P c ops Q N rest (upd e d (.int k r)) H) :
    TL P c ops Q N (⟨some d, .unOp .xor xt x, t, p, af, none⟩ :: rest) e H := TL.value' hd (fun a w ha _ => by simp [execOp, ha.ev hx, Op.unary, Op.intBits, ← hr, bits]) h
theorem TL.conv {x : Operand} {k k' : IntKind} {m r : Int} {src dst : TypeId} {s : TypeDesc} (hx : ev e x = some (.int k m)) (hd : Nat.blt d N = true) (hs : P.underlying src = some s) (hu : P.underlying dst = some (.int k'))
    (hr : k'.wrap m = r) (h : TL P c ops Q N rest (upd e d (.int k' r)) H) : TL P c ops Q N (⟨some d, .convert src dst x, t, p, af, none⟩ :: rest) e H :=
  TL.value' hd (fun a w ha _ => by simp [execOp, ha.ev hx, convert, hs, hu, underlying, Conv.intToInt, hr]) h
theorem TL.nilCheck {x : Operand} {b : Addr} (hx : ev e x = some (.pointer (some b))) (hd : Nat.blt d N = true) (h : TL P c ops Q N rest (upd e d (.pointer (some b))) H) :
    TL P c ops Q N (⟨some d, .nilCheck x, t, p, af, none⟩ :: rest) e H := TL.value' hd (fun a w ha _ => by simp [execOp, ha.ev hx]) h
theorem TL.extract {x : Operand} {vs : List Value} {i : Nat} {v : Value} (hx : ev e x = some (.tuple vs.toArray)) (hv : vs[i]? = some v) (hd : Nat.blt d N = true) (h : TL P c ops Q N rest (upd e d v) H) :
    TL P c ops Q N (⟨some d, .extract x i, t, p, af, none⟩ :: rest) e H := TL.value' hd (fun a w ha _ => by simp [execOp, ha.ev hx, Instr.extract, hv]) h
theorem TL.add {x y : Operand} {k : IntKind} {m n r : Int} {xt yt : TypeId} (hx : ev e x = some (.int k m)) (hy : ev e y = some (.int k n)) (hd : Nat.blt d N = true) (hr : k.wrap (m + n) = r)
    (h : TL P c ops Q N rest (upd e d (.int k r)) H) : TL P c ops Q N (⟨some d, .binOp .add xt x y yt, t, p, af, none⟩ :: rest) e H :=
  TL.value' hd (fun a w ha _ => by simp [execOp, ha.ev hx, ha.ev hy, eqGuard, binOp, Op.intArith, hr]) h
theorem TL.sub {x y : Operand} {k : IntKind} {m n r : Int} {xt yt : TypeId} (hx : ev e x = some (.int k m)) (hy : ev e y = some (.int k n)) (hd : Nat.blt d N = true) (hr : k.wrap (m - n) = r)
    (h : TL P c ops Q N rest (upd e d (.int k r)) H) : TL P c ops Q N (⟨some d, .binOp .sub xt x y yt, t, p, af, none⟩ :: rest) e H :=
  TL.value' hd (fun a w ha _ => by simp [execOp, ha.ev hx, ha.ev hy, eqGuard, binOp, Op.intArith, hr]) h
theorem TL.mul {x y : Operand} {k : IntKind} {m n r : Int} {xt yt : TypeId} (hx : ev e x = some (.int k m)) (hy : ev e y = some (.int k n)) (hd : Nat.blt d N = true) (hr : k.wrap (m * n) = r)
    (h : TL P c ops Q N rest (upd e d (.int k r)) H) : TL P c ops Q N (⟨some d, .binOp .mul xt x y yt, t, p, af, none⟩ :: rest) e H :=
  TL.value' hd (fun a w ha _ => by simp [execOp, ha.ev hx, ha.ev hy, eqGuard, binOp, Op.intArith, hr]) h
theorem TL.quo {x y : Operand} {k : IntKind} {m n r : Int} {xt yt : TypeId} (hx : ev e x = some (.int k m)) (hy : ev e y = some (.int k n)) (hn : n ≠ 0) (hd : Nat.blt d N = true) (hr : k.wrap (m.tdiv n) = r)
    (h : TL P c ops Q N rest (upd e d (.int k r)) H) : TL P c ops Q N (⟨some d, .binOp .quo xt x y yt, t, p, af, none⟩ :: rest) e H :=
  TL.value' hd (fun a w ha _ => by simp [execOp, ha.ev hx, ha.ev hy, eqGuard, binOp, Op.intDiv, hn, hr]) h
theorem TL.rem {x y : Operand} {k : IntKind} {m n r : Int} {xt yt : TypeId} (hx : ev e x = some (.int k m)) (hy : ev e y = some (.int k n)) (hn : n ≠ 0) (hd : Nat.blt d N = true) (hr : m.tmod n = r)
    (h : TL P c ops Q N rest (upd e d (.int k r)) H) : TL P c ops Q N (⟨some d, .binOp .rem xt x y yt, t, p, af, none⟩ :: rest) e H :=
  TL.value' hd (fun a w ha _ => by simp [execOp, ha.ev hx, ha.ev hy, eqGuard, binOp, Op.intDiv, hn, hr]) h
theorem TL.band {x y : Operand} {k : IntKind} {m n r : Int} {xt yt : TypeId} (hx : ev e x = some (.int k m)) (hy : ev e y = some (.int k n)) (hd : Nat.blt d N = true) (hr : bits .and k m n = r)
    (h : TL P c ops Q N rest (upd e d (.int k r)) H) : TL P c ops Q N (⟨some d, .binOp .and xt x y yt, t, p, af, none⟩ :: rest) e H :=
  TL.value' hd (fun a w ha _ => by simp [execOp, ha.ev hx, ha.ev hy, eqGuard, binOp, Op.intBits, ← hr, bits]) h
theorem TL.bor {x y : Operand} {k : IntKind} {m n r : Int} {xt yt : TypeId} (hx : ev e x = some (.int k m)) (hy : ev e y = some (.int k n)) (hd : Nat.blt d N = true) (hr : bits .or k m n = r)
    (h : TL P c ops Q N rest (upd e d (.int k r)) H) : TL P c ops Q N (⟨some d, .binOp .or xt x y yt, t, p, af, none⟩ :: rest) e H :=
  TL.value' hd (fun a w ha _ => by simp [execOp, ha.ev hx, ha.ev hy, eqGuard, binOp, Op.intBits, ← hr, bits]) h
theorem TL.xor {x y : Operand} {k : IntKind} {m n r : Int} {xt yt : TypeId} (hx : ev e x = some (.int k m)) (hy : ev e y = some (.int k n)) (hd : Nat.blt d N = true) (hr : bits .xor k m n = r)
    (h : TL P c ops Q N rest (upd e d (.int k r)) H) : TL P c ops Q N (⟨some d, .binOp .xor xt x y yt, t, p, af, none⟩ :: rest) e H :=
  TL.value' hd (fun a w ha _ => by simp [execOp, ha.ev hx, ha.ev hy, eqGuard, binOp, Op.intBits, ← hr, bits]) h
theorem TL.andNot {x y : Operand} {k : IntKind} {m n r : Int} {xt yt : TypeId} (hx : ev e x = some (.int k m)) (hy : ev e y = some (.int k n)) (hd : Nat.blt d N = true) (hr : bits .andNot k m n = r)
    (h : TL P c ops Q N rest (upd e d (.int k r)) H) : TL P c ops Q N (⟨some d, .binOp .andNot xt x y yt, t, p, af, none⟩ :: rest) e H :=
  TL.value' hd (fun a w ha _ => by simp [execOp, ha.ev hx, ha.ev hy, eqGuard, binOp, Op.intBits, ← hr, bits]) h
theorem TL.eql {x y : Operand} {k : IntKind} {m n : Int} {r : Bool} {xt yt : TypeId} (hx : ev e x = some (.int k m)) (hy : ev e y = some (.int k n)) (hd : Nat.blt d N = true) (hr : (m == n) = r)
    (h : TL P c ops Q N rest (upd e d (.bool r)) H) : TL P c ops Q N (⟨some d, .binOp .eql xt x y yt, t, p, af, none⟩ :: rest) e H :=
  TL.value' hd (fun a w ha _ => by simp [execOp, ha.ev hx, ha.ev hy, eqGuard, binOp, Op.intCmp, ← hr]) h
theorem TL.neq {x y : Operand} {k : IntKind} {m n : Int} {r : Bool} {xt yt : TypeId} (hx : ev e x = some (.int k m)) (hy : ev e y = some (.int k n)) (hd : Nat.blt d N = true) (hr : (m != n) = r)
    (h : TL P c ops Q N rest (upd e d (.bool r)) H) : TL P c ops Q N (⟨some d, .binOp .neq xt x y yt, t, p, af, none⟩ :: rest) e H :=
  TL.value' hd (fun a w ha _ => by simp [execOp, ha.ev hx, ha.ev hy, eqGuard, binOp, Op.intCmp, ← hr]) h
theorem TL.lss {x y : Operand} {k : IntKind} {m n : Int} {r : Bool} {xt yt : TypeId} (hx : ev e x = some (.int k m)) (hy : ev e y = some (.int k n)) (hd : Nat.blt d N = true) (hr : (decide (m < n)) = r)
    (h : TL P c ops Q N rest (upd e d (.bool r)) H) : TL P c ops Q N (⟨some d, .binOp .lss xt x y yt, t, p, af, none⟩ :: rest) e H :=
  TL.value' hd (fun a w ha _ => by simp [execOp, ha.ev hx, ha.ev hy, eqGuard, binOp, Op.intCmp, ← hr]) h
theorem TL.leq {x y : Operand} {k : IntKind} {m n : Int} {r : Bool} {xt yt : TypeId} (hx : ev e x = some (.int k m)) (hy : ev e y = some (.int k n)) (hd : Nat.blt d N = true) (hr : (decide (m ≤ n)) = r)
    (h : TL P c ops Q N rest (upd e d (.bool r)) H) : TL P c ops Q N (⟨some d, .binOp .leq xt x y yt, t, p, af, none⟩ :: rest) e H :=
  TL.value' hd (fun a w ha _ => by simp [execOp, ha.ev hx, ha.ev hy, eqGuard, binOp, Op.intCmp, ← hr]) h
theorem TL.gtr {x y : Operand} {k : IntKind} {m n : Int} {r : Bool} {xt yt : TypeId} (hx : ev e x = some (.int k m)) (hy : ev e y = some (.int k n)) (hd : Nat.blt d N = true) (hr : (decide (m > n)) = r)
    (h : TL P c ops Q N rest (upd e d (.bool r)) H) : TL P c ops Q N (⟨some d, .binOp .gtr xt x y yt, t, p, af, none⟩ :: rest) e H :=
  TL.value' hd (fun a w ha _ => by simp [execOp, ha.ev hx, ha.ev hy, eqGuard, binOp, Op.intCmp, ← hr]) h
theorem TL.geq {x y : Operand} {k : IntKind} {m n : Int} {r : Bool} {xt yt : TypeId} (hx : ev e x = some (.int k m)) (hy : ev e y = some (.int k n)) (hd : Nat.blt d N = true) (hr : (decide (m ≥ n)) = r)
    (h : TL P c ops Q N rest (upd e d (.bool r)) H) : TL P c ops Q N (⟨some d, .binOp .geq xt x y yt, t, p, af, none⟩ :: rest) e H :=
  TL.value' hd (fun a w ha _ => by simp [execOp, ha.ev hx, ha.ev hy, eqGuard, binOp, Op.intCmp, ← hr]) h
theorem TL.shl {x y : Operand} {k ky : IntKind} {m n r : Int} {xt yt : TypeId} (hx : ev e x = some (.int k m)) (hy : ev e y = some (.int ky n)) (hn : 0 ≤ n) (hd : Nat.blt d N = true) (hr : k.wrap (m * 2 ^ min n.toNat k.bits) = r)
    (h : TL P c ops Q N rest (upd e d (.int k r)) H) : TL P c ops Q N (⟨some d, .binOp .shl xt x y yt, t, p, af, none⟩ :: rest) e H :=
  TL.value' hd (fun a w ha _ => by simp [execOp, ha.ev hx, ha.ev hy, eqGuard, binOp, Op.shift, Int.not_lt.mpr hn, hr]) h
theorem TL.shr {x y : Operand} {k ky : IntKind} {m n r : Int} {xt yt : TypeId} (hx : ev e x = some (.int k m)) (hy : ev e y = some (.int ky n)) (hn : 0 ≤ n) (hd : Nat.blt d N = true) (hr : m.fdiv (2 ^ min n.toNat k.bits) = r)
    (h : TL P c ops Q N rest (upd e d (.int k r)) H) : TL P c ops Q N (⟨some d, .binOp .shr xt x y yt, t, p, af, none⟩ :: rest) e H :=
  TL.value' hd (fun a w ha _ => by simp [execOp, ha.ev hx, ha.ev hy, eqGuard, binOp, Op.shift, Int.not_lt.mpr hn, hr]) h
theorem TL.strCat {x y : Operand} {s u : ByteArray} {xt yt : TypeId} (hx : ev e x = some (.string s)) (hy : ev e y = some (.string u)) (hsz : s.size + u.size ≤ 9223372036854775807) (hd : Nat.blt d N = true)
    (h : TL P c ops Q N rest (upd e d (.string (s ++ u))) H) : TL P c ops Q N (⟨some d, .binOp .add xt x y yt, t, p, af, none⟩ :: rest) e H :=
  TL.value' hd (fun a w ha _ => by simp [execOp, ha.ev hx, ha.ev hy, eqGuard, binOp, Op.stringOp]; omega) h
theorem TL.strEql {x y : Operand} {s u : ByteArray} {xt yt : TypeId} {r : Bool} (hx : ev e x = some (.string s)) (hy : ev e y = some (.string u)) (hd : Nat.blt d N = true) (hr : (s.data.toList == u.data.toList) = r)
    (h : TL P c ops Q N rest (upd e d (.bool r)) H) : TL P c ops Q N (⟨some d, .binOp .eql xt x y yt, t, p, af, none⟩ :: rest) e H :=
  TL.value' hd (fun a w ha _ => by simp [execOp, ha.ev hx, ha.ev hy, eqGuard, binOp, Op.stringOp, ByteArray.toList_eq, ← hr]) h
theorem TL.strNeq {x y : Operand} {s u : ByteArray} {xt yt : TypeId} {r : Bool} (hx : ev e x = some (.string s)) (hy : ev e y = some (.string u)) (hd : Nat.blt d N = true) (hr : (!(s.data.toList == u.data.toList)) = r)
    (h : TL P c ops Q N rest (upd e d (.bool r)) H) : TL P c ops Q N (⟨some d, .binOp .neq xt x y yt, t, p, af, none⟩ :: rest) e H :=
  TL.value' hd (fun a w ha _ => by simp [execOp, ha.ev hx, ha.ev hy, eqGuard, binOp, Op.stringOp, ByteArray.toList_eq, ← hr]) h
end
end Go.Z
