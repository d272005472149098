/- PRINTED by wip/tools/ybuild.py: contracts of zoetropelaw14.BlockMay, zoetropelaw14.BlockValues, zoetropelaw14.BlockRuns. -/
import Derived.Test.YtfckbimkdjcncaaYTyA
import Derived.Test.YtfckbimkdjcncaaXBlk
import Derived.Test.YtfckbimkdjcncaaXDec
import Derived.Test.YtfckbimkdjcncaaYA00
import Derived.Test.YtfckbimkdjcncaaYA01
import Derived.Test.YtfckbimkdjcncaaYA02
import Derived.Test.YtfckbimkdjcncaaYA03
import Derived.Test.YtfckbimkdjcncaaYA04
import Derived.Test.YtfckbimkdjcncaaYA05
import Derived.Test.YtfckbimkdjcncaaYA06
import Derived.Test.YtfckbimkdjcncaaYA07
import Derived.Test.YtfckbimkdjcncaaXTr
import Derived.Test.YtfckbimkdjcncaaYA08
import Derived.Test.YtfckbimkdjcncaaYA09
import Derived.Test.YtfckbimkdjcncaaXLaw
set_option maxRecDepth 100000
set_option linter.unusedSimpArgs false
set_option linter.unusedVariables false
namespace Go.Y
open Go.Proofs Go.X
open Go.Z (U32 Regs rg kindOf lessOf shiftOf fillOf sg bitAt withBit bnor bor band bxor b01 bitsOf)
noncomputable def cx_zoetropelaw14_BlockMay : Ctx := mkCtx tys eqs [(12, con_zoetropelaw14_fixed), (13, con_ir_May), (14, con_zoetroperef14_May)] []
theorem cx_zoetropelaw14_BlockMay_ok : CtxOK Try.prog cx_zoetropelaw14_BlockMay := mkCtx_ok _ mixed tys_ok eqs_ok ⟨⟨ok_zoetropelaw14_fixed, Try.call12⟩, ⟨⟨ok_ir_May, Try.call13⟩, ⟨⟨ok_zoetroperef14_May, Try.call14⟩, trivial⟩⟩⟩
noncomputable def out_zoetropelaw14_BlockMay (eo : Nat) (n : Nat) (cap : Nat) (A : Option Addr) (l : List (Sh 5)) : Tr (SV × List Bk) :=
Tr.ass (((0 : Int) ≤ if (20 : Int) < (↑n : Int) then (20 : Int) else (↑n : Int)) ∧ (if (20 : Int) < (↑n : Int) then (20 : Int) else (↑n : Int)) ≤ (↑n : Int))
 (Tr.ass ((0 : Int) ≤ (↑(0 : Nat) : Int) ∧ (↑(0 : Nat) : Int) ≤ (↑(Int.toNat (if (20 : Int) < (↑n : Int) then (20 : Int) else (↑n : Int))) : Int))
 (Tr.ass (n ≤ cap)
 (Tr.ass
 (true = true →
 Int.toNat (if (20 : Int) < (↑n : Int) then (20 : Int) else (↑n : Int)) ≤ (65536 : Nat) ∧
 eo + Int.toNat (if (20 : Int) < (↑n : Int) then (20 : Int) else (↑n : Int)) ≤ List.length l ∧ List.length l ≤ List.length l)
 (Tr.ass
 (true = true →
 Int.toNat (if (20 : Int) < (↑n : Int) then (20 : Int) else (↑n : Int)) ≤ (65536 : Nat) ∧ eo + Int.toNat (if (20 : Int) < (↑n : Int) then (20 : Int) else (↑n : Int)) ≤ List.length l)
 (Tr.ret
 (SV.v
 (V1.c
 (Sc.b
 (X.mayOf (X.sub l eo (Int.toNat (if (20 : Int) < (↑n : Int) then (20 : Int) else (↑n : Int)))) ==
 X.mayOf (X.sub l eo (Int.toNat (if (20 : Int) < (↑n : Int) then (20 : Int) else (↑n : Int))))))),
 []))))))

theorem run_zoetropelaw14_BlockMay (eo : Nat) (n : Nat) (cap : Nat) (A : Option Addr) (l : List (Sh 5)) (W : List Rw) : runF cx_zoetropelaw14_BlockMay 16 [.tmp 2] (codeOf Try.f4) [(.v (.c (.rs 0 6 eo n cap A)))] [] (⟨5, l⟩ :: W) = out_zoetropelaw14_BlockMay eo n cap A l := by kernel_rfl
theorem pf_zoetropelaw14_BlockMay (eo : Nat) (n : Nat) (cap : Nat) (A : Option Addr) (l : List (Sh 5)) (K : SV × List Bk → Prop) (h : (.ass (n ≤ cap ∧ eo + n ≤ l.length) (.ret (.v (.c (.b (true))), [])) : Tr (SV × List Bk)).all K) : (out_zoetropelaw14_BlockMay eo n cap A l).all K := by
  obtain ⟨⟨hc, hN⟩, h⟩ := h
  replace h := h ⟨hc, hN⟩
  replace h : K _ := h
  unfold out_zoetropelaw14_BlockMay
  simp only [Tr.all, toNat_min20]
  exact ⟨⟨by split <;> omega, by split <;> omega⟩, fun _ => ⟨by omega, fun _ => ⟨hc, fun _ => ⟨fun _ => ⟨by omega, by omega, by omega⟩, fun _ => ⟨fun _ => ⟨by omega, by omega⟩, fun _ => leafB h (by simp)⟩⟩⟩⟩⟩
noncomputable def con_zoetropelaw14_BlockMay : Con := ⟨true, fun args H W => match args, H, W with
  | [(.v (.c (.rs 0 6 eo n cap A)))], [], ⟨5, l⟩ :: W => .ass (n ≤ cap ∧ eo + n ≤ l.length) (.ret (.v (.c (.b (true))), []))
  | _, _, _ => .stuck 900⟩
theorem ok_zoetropelaw14_BlockMay : ConOK Try.prog 4 con_zoetropelaw14_BlockMay := con_ok (code := (codeOf Try.f4)) (N := 16) (rs := [.tmp 2]) cx_zoetropelaw14_BlockMay_ok 0 Try.func4 rfl rfl rfl (fun _ _ _ _ _ => LpOK.no (by kernel_rfl)) (by
  intro args H W K h hro
  unfold con_zoetropelaw14_BlockMay at h
  simp only at h
  split at h
  · refine ⟨rfl, ?_⟩
    rw [run_zoetropelaw14_BlockMay]
    exact pf_zoetropelaw14_BlockMay _ _ _ _ _ K h
  · exact h.elim)
noncomputable def cx_zoetropelaw14_BlockValues : Ctx := mkCtx tys eqs [(12, con_zoetropelaw14_fixed), (18, con_ir_Value), (19, con_zoetroperef14_Value)] []
theorem cx_zoetropelaw14_BlockValues_ok : CtxOK Try.prog cx_zoetropelaw14_BlockValues := mkCtx_ok _ mixed tys_ok eqs_ok ⟨⟨ok_zoetropelaw14_fixed, Try.call12⟩, ⟨⟨ok_ir_Value, Try.call18⟩, ⟨⟨ok_zoetroperef14_Value, Try.call19⟩, trivial⟩⟩⟩
noncomputable def out_zoetropelaw14_BlockValues (k : Int) (a : Int) (b : Int) : Tr (SV × List Bk) :=
Tr.ass ((13 : Int) ≠ (0 : Int))
 (Tr.ass (true = true → Z.U32 a ∧ Z.U32 b ∧ Z.U32 (bits BinOp.xor IntKind.u32 a b))
 (Tr.ass
 (true = true →
 (Z.U32 a ∧ Z.U32 b ∧ Z.U32 (bits BinOp.xor IntKind.u32 a b)) ∧
 (1 : Int) ≤ IntKind.wrap IntKind.i64 ((1 : Int) + Int.tmod (bits BinOp.and IntKind.i64 k (65535 : Int)) (13 : Int)) ∧
 IntKind.wrap IntKind.i64 ((1 : Int) + Int.tmod (bits BinOp.and IntKind.i64 k (65535 : Int)) (13 : Int)) ≤ (13 : Int))
 (Tr.ass
 (decide
 (Z.valOf (IntKind.wrap IntKind.i64 ((1 : Int) + Int.tmod (bits BinOp.and IntKind.i64 k (65535 : Int)) (13 : Int))) a b (bits BinOp.xor IntKind.u32 a b) =
 Z.valOf (IntKind.wrap IntKind.i64 ((1 : Int) + Int.tmod (bits BinOp.and IntKind.i64 k (65535 : Int)) (13 : Int))) a b (bits BinOp.xor IntKind.u32 a b)) =
 true →
 Z.U32 b ∧ Z.U32 a ∧ Z.U32 (7 : Int))
 (Tr.ass
 (decide
 (Z.valOf (IntKind.wrap IntKind.i64 ((1 : Int) + Int.tmod (bits BinOp.and IntKind.i64 k (65535 : Int)) (13 : Int))) a b (bits BinOp.xor IntKind.u32 a b) =
 Z.valOf (IntKind.wrap IntKind.i64 ((1 : Int) + Int.tmod (bits BinOp.and IntKind.i64 k (65535 : Int)) (13 : Int))) a b (bits BinOp.xor IntKind.u32 a b)) =
 true →
 (Z.U32 b ∧ Z.U32 a ∧ Z.U32 (7 : Int)) ∧
 (1 : Int) ≤ IntKind.wrap IntKind.i64 ((1 : Int) + Int.tmod (bits BinOp.and IntKind.i64 k (65535 : Int)) (13 : Int)) ∧
 IntKind.wrap IntKind.i64 ((1 : Int) + Int.tmod (bits BinOp.and IntKind.i64 k (65535 : Int)) (13 : Int)) ≤ (13 : Int))
 (Tr.ret
 (SV.v
 (V1.c
 (Sc.b
 (bif
 decide
 (Z.valOf (IntKind.wrap IntKind.i64 ((1 : Int) + Int.tmod (bits BinOp.and IntKind.i64 k (65535 : Int)) (13 : Int))) a b
 (bits BinOp.xor IntKind.u32 a b) =
 Z.valOf (IntKind.wrap IntKind.i64 ((1 : Int) + Int.tmod (bits BinOp.and IntKind.i64 k (65535 : Int)) (13 : Int))) a b
 (bits BinOp.xor IntKind.u32 a b)) then
 decide
 (Z.valOf (IntKind.wrap IntKind.i64 ((1 : Int) + Int.tmod (bits BinOp.and IntKind.i64 k (65535 : Int)) (13 : Int))) b a (7 : Int) =
 Z.valOf (IntKind.wrap IntKind.i64 ((1 : Int) + Int.tmod (bits BinOp.and IntKind.i64 k (65535 : Int)) (13 : Int))) b a (7 : Int))
 else false))),
 []))))))

theorem run_zoetropelaw14_BlockValues (k : Int) (a : Int) (b : Int) (W : List Rw) : runF cx_zoetropelaw14_BlockValues 41 [.tmp 6] (codeOf Try.f7) [(.v (.c (.i .i64 k))), (.v (.c (.i .u32 a))), (.v (.c (.i .u32 b)))] [] W = out_zoetropelaw14_BlockValues k a b := by kernel_rfl
theorem pf_zoetropelaw14_BlockValues (k : Int) (a : Int) (b : Int) (K : SV × List Bk → Prop) (h : (.ass (U32 a ∧ U32 b) (.ret (.v (.c (.b (true))), [])) : Tr (SV × List Bk)).all K) : (out_zoetropelaw14_BlockValues k a b).all K := by
  obtain ⟨⟨ha, hb⟩, h⟩ := h
  replace h := h ⟨ha, hb⟩
  replace h : K _ := h
  have hx : U32 (bits .xor .u32 a b) := by rw [Z.bxor_eq ha hb]; exact Z.bxor_u32 ha hb
  have h7 : U32 7 := by decide
  have hm : bits .and .i64 k 65535 = k % 65536 := Z.bM_i64 16 (by decide) (by decide) (by decide)
  have ht : Int.tmod (k % 65536) 13 = k % 65536 % 13 := Z.tmod_nn (by omega) (by omega)
  have hk : IntKind.i64.wrap (1 + k % 65536 % 13) = 1 + k % 65536 % 13 := Z.wI64 (by omega)
  unfold out_zoetropelaw14_BlockValues
  simp only [Tr.all, hm, ht, hk]
  refine ⟨by decide, fun _ => ⟨fun _ => ⟨ha, hb, hx⟩, fun _ => ⟨fun _ => ⟨⟨ha, hb, hx⟩, by omega, by omega⟩, fun _ => ⟨fun _ => ⟨hb, ha, h7⟩, fun _ => ⟨fun _ => ⟨⟨hb, ha, h7⟩, by omega, by omega⟩, fun _ => leafB h (by simp)⟩⟩⟩⟩⟩
noncomputable def con_zoetropelaw14_BlockValues : Con := ⟨true, fun args H W => match args, H, W with
  | [(.v (.c (.i .i64 k))), (.v (.c (.i .u32 a))), (.v (.c (.i .u32 b)))], [], _ => .ass (U32 a ∧ U32 b) (.ret (.v (.c (.b (true))), []))
  | _, _, _ => .stuck 900⟩
theorem ok_zoetropelaw14_BlockValues : ConOK Try.prog 7 con_zoetropelaw14_BlockValues := con_ok (code := (codeOf Try.f7)) (N := 41) (rs := [.tmp 6]) cx_zoetropelaw14_BlockValues_ok 0 Try.func7 rfl rfl rfl (fun _ _ _ _ _ => LpOK.no (by kernel_rfl)) (by
  intro args H W K h hro
  unfold con_zoetropelaw14_BlockValues at h
  simp only at h
  split at h
  · refine ⟨rfl, ?_⟩
    rw [run_zoetropelaw14_BlockValues]
    exact pf_zoetropelaw14_BlockValues _ _ _ K h
  · exact h.elim)
noncomputable def cx_zoetropelaw14_BlockRuns : Ctx := mkCtx tys eqs [(15, con_ir_Run), (16, con_ir_Until), (14, con_zoetroperef14_May), (12, con_zoetropelaw14_fixed), (17, con_zoetroperef14_Until)] []
theorem cx_zoetropelaw14_BlockRuns_ok : CtxOK Try.prog cx_zoetropelaw14_BlockRuns := mkCtx_ok _ mixed tys_ok eqs_ok ⟨⟨ok_ir_Run, Try.call15⟩, ⟨⟨ok_ir_Until, Try.call16⟩, ⟨⟨ok_zoetroperef14_May, Try.call14⟩, ⟨⟨ok_zoetropelaw14_fixed, Try.call12⟩, ⟨⟨ok_zoetroperef14_Until, Try.call17⟩, trivial⟩⟩⟩⟩⟩
noncomputable def out_zoetropelaw14_BlockRuns (eo : Nat) (n : Nat) (cap : Nat) (A : Option Addr) (r : List (Sh 0)) (c : Int) (l : List (Sh 5)) : Tr (SV × List Bk) :=
Tr.ass (((0 : Int) ≤ if (20 : Int) < (↑n : Int) then (20 : Int) else (↑n : Int)) ∧ (if (20 : Int) < (↑n : Int) then (20 : Int) else (↑n : Int)) ≤ (↑n : Int))
 (Tr.ass ((0 : Int) ≤ (↑(0 : Nat) : Int) ∧ (↑(0 : Nat) : Int) ≤ (↑(Int.toNat (if (20 : Int) < (↑n : Int) then (20 : Int) else (↑n : Int))) : Int))
 (Tr.ass (n ≤ cap)
 (Tr.ass
 ((Int.toNat (if (20 : Int) < (↑n : Int) then (20 : Int) else (↑n : Int)) ≤ (65536 : Nat) ∧
 eo + Int.toNat (if (20 : Int) < (↑n : Int) then (20 : Int) else (↑n : Int)) ≤ List.length l ∧ List.length l ≤ List.length l) ∧
 (∀ (m : Sh (5 : Nat)), m ∈ X.sub l eo (Int.toNat (if (20 : Int) < (↑n : Int) then (20 : Int) else (↑n : Int))) → Z.U32 (Mic.i m)) ∧ Z.Regs r)
 (Tr.ass
 ((Int.toNat (if (20 : Int) < (↑n : Int) then (20 : Int) else (↑n : Int)) ≤ (65536 : Nat) ∧
 eo + Int.toNat (if (20 : Int) < (↑n : Int) then (20 : Int) else (↑n : Int)) ≤ List.length l ∧ List.length l ≤ List.length l) ∧
 (∀ (m : Sh (5 : Nat)), m ∈ X.sub l eo (Int.toNat (if (20 : Int) < (↑n : Int) then (20 : Int) else (↑n : Int))) → Z.U32 (Mic.i m)) ∧ Z.Regs r)
 (Tr.both
 (Tr.ass
 (Int.toNat (if (20 : Int) < (↑n : Int) then (20 : Int) else (↑n : Int)) ≤ (65536 : Nat) ∧ eo + Int.toNat (if (20 : Int) < (↑n : Int) then (20 : Int) else (↑n : Int)) ≤ List.length l)
 (Tr.ite (!X.mayOf (X.sub l eo (Int.toNat (if (20 : Int) < (↑n : Int) then (20 : Int) else (↑n : Int))))) (Tr.ret (SV.v (V1.c (Sc.b true)), []))
 (Tr.ite (true == true)
 (Tr.ass
 ((Int.toNat (if (20 : Int) < (↑n : Int) then (20 : Int) else (↑n : Int)) ≤ (65536 : Nat) ∧
 eo + Int.toNat (if (20 : Int) < (↑n : Int) then (20 : Int) else (↑n : Int)) ≤ List.length l) ∧
 (∀ (m : Sh (5 : Nat)), m ∈ X.sub l eo (Int.toNat (if (20 : Int) < (↑n : Int) then (20 : Int) else (↑n : Int))) → X.fitsP m) ∧
 (∀ (m : Sh (5 : Nat)), m ∈ X.sub l eo (Int.toNat (if (20 : Int) < (↑n : Int) then (20 : Int) else (↑n : Int))) → Z.U32 (Mic.i m)) ∧ Z.Regs r)
 (Tr.ite
 (decide
 (X.runOf (X.sub l eo (Int.toNat (if (20 : Int) < (↑n : Int) then (20 : Int) else (↑n : Int)))) (List.set r (0 : Nat) (0 : Int)) =
 X.untilOf (16 : Int) (X.sub l eo (Int.toNat (if (20 : Int) < (↑n : Int) then (20 : Int) else (↑n : Int)))) (List.set r (0 : Nat) (0 : Int))) ==
 true)
 (Tr.ass
 ((Int.toNat (if (20 : Int) < (↑n : Int) then (20 : Int) else (↑n : Int)) ≤ (65536 : Nat) ∧
 eo + Int.toNat (if (20 : Int) < (↑n : Int) then (20 : Int) else (↑n : Int)) ≤ List.length l) ∧
 (∀ (m : Sh (5 : Nat)), m ∈ X.sub l eo (Int.toNat (if (20 : Int) < (↑n : Int) then (20 : Int) else (↑n : Int))) → X.fitsP m) ∧
 (∀ (m : Sh (5 : Nat)), m ∈ X.sub l eo (Int.toNat (if (20 : Int) < (↑n : Int) then (20 : Int) else (↑n : Int))) → Z.U32 (Mic.i m)) ∧ Z.Regs r)
 (Tr.ret
 (SV.v
 (V1.c
 (Sc.b
 (decide
 (X.untilOf c (X.sub l eo (Int.toNat (if (20 : Int) < (↑n : Int) then (20 : Int) else (↑n : Int)))) (List.set r (0 : Nat) (0 : Int)) =
 X.untilOf c (X.sub l eo (Int.toNat (if (20 : Int) < (↑n : Int) then (20 : Int) else (↑n : Int)))) (List.set r (0 : Nat) (0 : Int)))))),
 [])))
 (Tr.ret (SV.v (V1.c (Sc.b false)), []))))
 (Tr.ret (SV.v (V1.c (Sc.b false)), [])))))
 (Tr.ass
 (Int.toNat (if (20 : Int) < (↑n : Int) then (20 : Int) else (↑n : Int)) ≤ (65536 : Nat) ∧ eo + Int.toNat (if (20 : Int) < (↑n : Int) then (20 : Int) else (↑n : Int)) ≤ List.length l)
 (Tr.ite (!X.mayOf (X.sub l eo (Int.toNat (if (20 : Int) < (↑n : Int) then (20 : Int) else (↑n : Int))))) (Tr.ret (SV.v (V1.c (Sc.b true)), []))
 (Tr.ite (true == true)
 (Tr.ass
 ((Int.toNat (if (20 : Int) < (↑n : Int) then (20 : Int) else (↑n : Int)) ≤ (65536 : Nat) ∧
 eo + Int.toNat (if (20 : Int) < (↑n : Int) then (20 : Int) else (↑n : Int)) ≤ List.length l) ∧
 (∀ (m : Sh (5 : Nat)), m ∈ X.sub l eo (Int.toNat (if (20 : Int) < (↑n : Int) then (20 : Int) else (↑n : Int))) → X.fitsP m) ∧
 (∀ (m : Sh (5 : Nat)), m ∈ X.sub l eo (Int.toNat (if (20 : Int) < (↑n : Int) then (20 : Int) else (↑n : Int))) → Z.U32 (Mic.i m)) ∧ Z.Regs r)
 (Tr.ite
 (decide
 (X.runOf (X.sub l eo (Int.toNat (if (20 : Int) < (↑n : Int) then (20 : Int) else (↑n : Int)))) (List.set r (0 : Nat) (0 : Int)) =
 X.untilOf (16 : Int) (X.sub l eo (Int.toNat (if (20 : Int) < (↑n : Int) then (20 : Int) else (↑n : Int)))) (List.set r (0 : Nat) (0 : Int))) ==
 true)
 (Tr.ass
 ((Int.toNat (if (20 : Int) < (↑n : Int) then (20 : Int) else (↑n : Int)) ≤ (65536 : Nat) ∧
 eo + Int.toNat (if (20 : Int) < (↑n : Int) then (20 : Int) else (↑n : Int)) ≤ List.length l) ∧
 (∀ (m : Sh (5 : Nat)), m ∈ X.sub l eo (Int.toNat (if (20 : Int) < (↑n : Int) then (20 : Int) else (↑n : Int))) → X.fitsP m) ∧
 (∀ (m : Sh (5 : Nat)), m ∈ X.sub l eo (Int.toNat (if (20 : Int) < (↑n : Int) then (20 : Int) else (↑n : Int))) → Z.U32 (Mic.i m)) ∧ Z.Regs r)
 (Tr.ret
 (SV.v
 (V1.c
 (Sc.b
 (decide
 (X.untilOf c (X.sub l eo (Int.toNat (if (20 : Int) < (↑n : Int) then (20 : Int) else (↑n : Int)))) (List.set r (0 : Nat) (0 : Int)) =
 X.untilOf c (X.sub l eo (Int.toNat (if (20 : Int) < (↑n : Int) then (20 : Int) else (↑n : Int)))) (List.set r (0 : Nat) (0 : Int)))))),
 [])))
 (Tr.ret (SV.v (V1.c (Sc.b false)), []))))
 (Tr.ret (SV.v (V1.c (Sc.b false)), []))))))))))

theorem run_zoetropelaw14_BlockRuns (eo : Nat) (n : Nat) (cap : Nat) (A : Option Addr) (r : List (Sh 0)) (c : Int) (l : List (Sh 5)) (W : List Rw) : runF cx_zoetropelaw14_BlockRuns 43 [.tmp 6] (codeOf Try.f5) [(.v (.c (.rs 0 6 eo n cap A))), (.v (.agg [.arr 0 32 r])), (.v (.c (.i .i64 c)))] [] (⟨5, l⟩ :: W) = out_zoetropelaw14_BlockRuns eo n cap A r c l := by kernel_rfl
theorem pf_zoetropelaw14_BlockRuns (eo : Nat) (n : Nat) (cap : Nat) (A : Option Addr) (r : List (Sh 0)) (c : Int) (l : List (Sh 5)) (K : SV × List Bk → Prop) (h : (.ass (n ≤ cap ∧ eo + n ≤ l.length ∧ (∀ m ∈ sub l eo n, U32 m.i) ∧ Regs r) (.ret (.v (.c (.b (true))), [])) : Tr (SV × List Bk)).all K) : (out_zoetropelaw14_BlockRuns eo n cap A r c l).all K := by
  obtain ⟨hp, h⟩ := h
  replace h := h hp
  replace h : K _ := h
  obtain ⟨hc, hN, hu, hr⟩ := hp
  have hu' : ∀ m ∈ (sub l eo n).take 20, U32 m.i := fun m hm => hu m (List.mem_of_mem_take hm)
  unfold out_zoetropelaw14_BlockRuns
  simp only [Tr.all, toNat_min20, sub_min]
  have hP : (min 20 n ≤ 65536 ∧ eo + min 20 n ≤ l.length ∧ l.length ≤ l.length) ∧ (∀ m ∈ (sub l eo n).take 20, U32 m.i) ∧ Regs r := ⟨⟨by omega, by omega, by omega⟩, hu', hr⟩
  have hfin : ∀ (g : Bool → Prop), g true → min 20 n ≤ 65536 ∧ eo + min 20 n ≤ l.length ∧ True := fun _ _ => ⟨by omega, by omega, trivial⟩
  refine ⟨⟨by split <;> omega, by split <;> omega⟩, fun _ => ⟨by omega, fun _ => ⟨hc, fun _ => ⟨hP, fun _ => ⟨hP, fun _ => ?_⟩⟩⟩⟩⟩
  constructor
  all_goals
    refine ⟨⟨by omega, by omega⟩, fun _ => ⟨fun _ => h, fun h1 => ⟨fun _ => ?_, fun h2 => absurd h2 (by decide)⟩⟩⟩
    have hm : mayOf ((sub l eo n).take 20) = true := by simpa using h1
    have hP2 : (min 20 n ≤ 65536 ∧ eo + min 20 n ≤ l.length) ∧ (∀ m ∈ (sub l eo n).take 20, fitsP m) ∧ (∀ m ∈ (sub l eo n).take 20, U32 m.i) ∧ Regs r := ⟨⟨by omega, by omega⟩, may_fits hm, hu', hr⟩
    refine ⟨hP2, fun _ => ⟨fun _ => ⟨hP2, fun _ => leafB h (by simp)⟩, fun h3 => absurd h3 ?_⟩⟩
    rw [until_may hm]; simp
noncomputable def con_zoetropelaw14_BlockRuns : Con := ⟨true, fun args H W => match args, H, W with
  | [(.v (.c (.rs 0 6 eo n cap A))), (.v (.agg [.arr 0 32 r])), (.v (.c (.i .i64 c)))], [], ⟨5, l⟩ :: W => .ass (n ≤ cap ∧ eo + n ≤ l.length ∧ (∀ m ∈ sub l eo n, U32 m.i) ∧ Regs r) (.ret (.v (.c (.b (true))), []))
  | _, _, _ => .stuck 900⟩
theorem ok_zoetropelaw14_BlockRuns : ConOK Try.prog 5 con_zoetropelaw14_BlockRuns := con_ok (code := (codeOf Try.f5)) (N := 43) (rs := [.tmp 6]) cx_zoetropelaw14_BlockRuns_ok 0 Try.func5 rfl rfl rfl (fun _ _ _ _ _ => LpOK.no (by kernel_rfl)) (by
  intro args H W K h hro
  unfold con_zoetropelaw14_BlockRuns at h
  simp only at h
  split at h
  · refine ⟨rfl, ?_⟩
    rw [run_zoetropelaw14_BlockRuns]
    exact pf_zoetropelaw14_BlockRuns _ _ _ _ _ _ _ K h
  · exact h.elim)
end Go.Y
