/- PRINTED by wip/tools/ybuild.py: contracts of zoetroperef04.At, zoetroperef04.word, zoetroperef14.kinds. -/
import Derived.Test.YtfckbimkdjcncaaYTyA
import Derived.Test.YtfckbimkdjcncaaG6
import Derived.Test.YtfckbimkdjcncaaYA00
import Derived.Test.YtfckbimkdjcncaaYA01
import Derived.Test.YtfckbimkdjcncaaYA02
import Derived.Test.YtfckbimkdjcncaaYA03
import Derived.Test.YtfckbimkdjcncaaYA04
import Derived.Test.YtfckbimkdjcncaaYA05
import Derived.Test.YtfckbimkdjcncaaYA06
import Derived.Test.YtfckbimkdjcncaaYA07
import Derived.Test.YtfckbimkdjcncaaYA08
import Derived.Test.YtfckbimkdjcncaaYA09
import Derived.Test.YtfckbimkdjcncaaYA10
import Derived.Test.YtfckbimkdjcncaaYA11
set_option maxRecDepth 100000
set_option linter.unusedSimpArgs false
set_option linter.unusedVariables false
namespace Go.Y
open Go.Proofs Go.X
open Go.Z (U32 Regs rg kindOf lessOf shiftOf fillOf sg bitAt withBit bnor bor band bxor b01 bitsOf)
noncomputable def cx_zoetroperef04_At : Ctx := mkCtx tys eqs [(38, con_zoetroperef04_first), (39, con_zoetroperef04_second), (40, con_zoetroperef04_third)] []
theorem cx_zoetroperef04_At_ok : CtxOK Try.prog cx_zoetroperef04_At := mkCtx_ok _ mixed tys_ok eqs_ok ⟨⟨ok_zoetroperef04_first, Try.call38⟩, ⟨⟨ok_zoetroperef04_second, Try.call39⟩, ⟨⟨ok_zoetroperef04_third, Try.call40⟩, trivial⟩⟩⟩
noncomputable def out_zoetroperef04_At (op : Int) : Tr (SV × List Bk) :=
Tr.ite (decide (op < (23 : Int)))
 (Tr.ass (op < (23 : Int))
 (Tr.ret
 (SV.v
 (V1.agg
 [Seg.one (Sc.s (X.nameL op)), Seg.one (Sc.s (X.formL op)), Seg.one (Sc.i IntKind.i64 (X.majO op)),
 Seg.one (Sc.i IntKind.i64 (X.minO op))]),
 [])))
 (Tr.ite (decide (op < (46 : Int)))
 (Tr.ass ((23 : Int) ≤ op ∧ op < (46 : Int))
 (Tr.ret
 (SV.v
 (V1.agg
 [Seg.one (Sc.s (X.nameL op)), Seg.one (Sc.s (X.formL op)), Seg.one (Sc.i IntKind.i64 (X.majO op)),
 Seg.one (Sc.i IntKind.i64 (X.minO op))]),
 [])))
 (Tr.ass ((46 : Int) ≤ op)
 (Tr.ret
 (SV.v
 (V1.agg
 [Seg.one (Sc.s (X.nameL op)), Seg.one (Sc.s (X.formL op)), Seg.one (Sc.i IntKind.i64 (X.majO op)),
 Seg.one (Sc.i IntKind.i64 (X.minO op))]),
 []))))

theorem run_zoetroperef04_At (op : Int) (W : List Rw) : runF cx_zoetroperef04_At 13 [.cell 2 47] (codeOf Try.f21) [(.v (.c (.i .i64 op)))] [] W = out_zoetroperef04_At op := by kernel_rfl
theorem pf_zoetroperef04_At (op : Int) (K : SV × List Bk → Prop) (h : (.ret (.v (.agg [.one (.s (nameL (op))), .one (.s (formL (op))), .one (.i .i64 (majO (op))), .one (.i .i64 (minO (op)))]), []) : Tr (SV × List Bk)).all K) : (out_zoetroperef04_At op).all K := by
  replace h : K _ := h
  unfold out_zoetroperef04_At
  simp only [Tr.all, decide_eq_true_eq, decide_eq_false_iff_not]
  exact ⟨fun h1 => ⟨h1, fun _ => h⟩, fun h1 => ⟨fun h2 => ⟨⟨by omega, h2⟩, fun _ => h⟩, fun h2 => ⟨by omega, fun _ => h⟩⟩⟩
noncomputable def con_zoetroperef04_At : Con := ⟨true, fun args H W => match args, H, W with
  | [(.v (.c (.i .i64 op)))], [], _ => .ret (.v (.agg [.one (.s (nameL (op))), .one (.s (formL (op))), .one (.i .i64 (majO (op))), .one (.i .i64 (minO (op)))]), [])
  | _, _, _ => .stuck 900⟩
theorem ok_zoetroperef04_At : ConOK Try.prog 21 con_zoetroperef04_At := con_ok (code := (codeOf Try.f21)) (N := 13) (rs := [.cell 2 47]) cx_zoetroperef04_At_ok 0 Try.func21 rfl rfl rfl (fun _ _ _ _ _ => LpOK.no (by kernel_rfl)) (by
  intro args H W K h hro
  unfold con_zoetroperef04_At at h
  simp only at h
  split at h
  · refine ⟨rfl, ?_⟩
    rw [run_zoetroperef04_At]
    exact pf_zoetroperef04_At _ K h
  · exact h.elim)
noncomputable def cx_zoetroperef04_word : Ctx := mkCtx tys eqs [] []
theorem cx_zoetroperef04_word_ok : CtxOK Try.prog cx_zoetroperef04_word := mkCtx_ok _ mixed tys_ok eqs_ok trivial
noncomputable def out_zoetroperef04_word (M : Int) (a : Int) (b : Int) (c : Int) (d : Int) (e : Int) : Tr (SV × List Bk) :=
Tr.ret
 (SV.v
 (V1.c
 (Sc.i IntKind.u32
 (IntKind.wrap IntKind.u32
 (IntKind.wrap IntKind.i64
 (IntKind.wrap IntKind.i64
 (IntKind.wrap IntKind.i64
 (IntKind.wrap IntKind.i64
 (IntKind.wrap IntKind.i64
 (IntKind.wrap IntKind.i64
 (IntKind.wrap IntKind.i64
 (IntKind.wrap IntKind.i64 (IntKind.wrap IntKind.i64 (IntKind.wrap IntKind.i64 (M * (32 : Int)) + a) * (32 : Int)) + b) *
 (32 : Int)) +
 c) *
 (32 : Int)) +
 d) *
 (64 : Int)) +
 e))))),
 [])

theorem run_zoetroperef04_word (M : Int) (a : Int) (b : Int) (c : Int) (d : Int) (e : Int) (W : List Rw) : runF cx_zoetroperef04_word 30 [.tmp 12] (codeOf Try.f56) [(.v (.c (.i .i64 M))), (.v (.c (.i .i64 a))), (.v (.c (.i .i64 b))), (.v (.c (.i .i64 c))), (.v (.c (.i .i64 d))), (.v (.c (.i .i64 e)))] [] W = out_zoetroperef04_word M a b c d e := by kernel_rfl
theorem pf_zoetroperef04_word (M : Int) (a : Int) (b : Int) (c : Int) (d : Int) (e : Int) (K : SV × List Bk → Prop) (h : (.ass ((0 ≤ M ∧ M < 64) ∧ (0 ≤ a ∧ a < 32) ∧ (0 ≤ b ∧ b < 32) ∧ (0 ≤ c ∧ c < 32) ∧ (0 ≤ d ∧ d < 32) ∧ (0 ≤ e ∧ e < 64)) (.ret (.v (.c (.i .u32 (M * 67108864 + a * 2097152 + b * 65536 + c * 2048 + d * 64 + e))), [])) : Tr (SV × List Bk)).all K) : (out_zoetroperef04_word M a b c d e).all K := by
  obtain ⟨hp, h⟩ := h
  replace h := h hp
  replace h : K _ := h
  replace h : K _ := h
  unfold out_zoetroperef04_word
  simp only [Tr.all]
  refine leafI h ?_
  rw [Z.wI64 (z := M * 32) (by omega), Z.wI64 (z := M * 32 + a) (by omega), Z.wI64 (z := (M * 32 + a) * 32) (by omega), Z.wI64 (z := (M * 32 + a) * 32 + b) (by omega), Z.wI64 (z := ((M * 32 + a) * 32 + b) * 32) (by omega), Z.wI64 (z := ((M * 32 + a) * 32 + b) * 32 + c) (by omega), Z.wI64 (z := (((M * 32 + a) * 32 + b) * 32 + c) * 32) (by omega), Z.wI64 (z := (((M * 32 + a) * 32 + b) * 32 + c) * 32 + d) (by omega), Z.wI64 (z := ((((M * 32 + a) * 32 + b) * 32 + c) * 32 + d) * 64) (by omega), Z.wI64 (z := ((((M * 32 + a) * 32 + b) * 32 + c) * 32 + d) * 64 + e) (by omega), Z.wU32i (by omega)]
  omega
noncomputable def con_zoetroperef04_word : Con := ⟨true, fun args H W => match args, H, W with
  | [(.v (.c (.i .i64 M))), (.v (.c (.i .i64 a))), (.v (.c (.i .i64 b))), (.v (.c (.i .i64 c))), (.v (.c (.i .i64 d))), (.v (.c (.i .i64 e)))], [], _ => .ass ((0 ≤ M ∧ M < 64) ∧ (0 ≤ a ∧ a < 32) ∧ (0 ≤ b ∧ b < 32) ∧ (0 ≤ c ∧ c < 32) ∧ (0 ≤ d ∧ d < 32) ∧ (0 ≤ e ∧ e < 64)) (.ret (.v (.c (.i .u32 (M * 67108864 + a * 2097152 + b * 65536 + c * 2048 + d * 64 + e))), []))
  | _, _, _ => .stuck 900⟩
theorem ok_zoetroperef04_word : ConOK Try.prog 56 con_zoetroperef04_word := con_ok (code := (codeOf Try.f56)) (N := 30) (rs := [.tmp 12]) cx_zoetroperef04_word_ok 0 Try.func56 rfl rfl rfl (fun _ _ _ _ _ => LpOK.no (by kernel_rfl)) (by
  intro args H W K h hro
  unfold con_zoetroperef04_word at h
  simp only at h
  split at h
  · refine ⟨rfl, ?_⟩
    rw [run_zoetroperef04_word]
    exact pf_zoetroperef04_word _ _ _ _ _ _ K h
  · exact h.elim)
noncomputable def cx_zoetroperef14_kinds : Ctx := mkCtx tys eqs [] []
theorem cx_zoetroperef14_kinds_ok : CtxOK Try.prog cx_zoetroperef14_kinds := mkCtx_ok _ mixed tys_ok eqs_ok trivial
noncomputable def out_zoetroperef14_kinds (q : List UInt8) : Tr (SV × List Bk) :=
Tr.ite (bif decide (q = [(115 : UInt8), (108 : UInt8), (108 : UInt8)]) then true else decide (q = [(115 : UInt8), (108 : UInt8), (108 : UInt8), (118 : UInt8)]))
 (Tr.ret (SV.v (V1.c (Sc.i IntKind.i64 (11 : Int))), []))
 (Tr.ite (bif decide (q = [(115 : UInt8), (114 : UInt8), (108 : UInt8)]) then true else decide (q = [(115 : UInt8), (114 : UInt8), (108 : UInt8), (118 : UInt8)]))
 (Tr.ret (SV.v (V1.c (Sc.i IntKind.i64 (12 : Int))), []))
 (Tr.ite (bif decide (q = [(115 : UInt8), (114 : UInt8), (97 : UInt8)]) then true else decide (q = [(115 : UInt8), (114 : UInt8), (97 : UInt8), (118 : UInt8)]))
 (Tr.ret (SV.v (V1.c (Sc.i IntKind.i64 (13 : Int))), []))
 (Tr.ite
 (bif decide (q = [(97 : UInt8), (100 : UInt8), (100 : UInt8), (117 : UInt8)]) then true
 else decide (q = [(97 : UInt8), (100 : UInt8), (100 : UInt8), (105 : UInt8), (117 : UInt8)]))
 (Tr.ret (SV.v (V1.c (Sc.i IntKind.i64 (3 : Int))), []))
 (Tr.ite (decide (q = [(115 : UInt8), (117 : UInt8), (98 : UInt8), (117 : UInt8)])) (Tr.ret (SV.v (V1.c (Sc.i IntKind.i64 (4 : Int))), []))
 (Tr.ite (bif decide (q = [(97 : UInt8), (110 : UInt8), (100 : UInt8)]) then true else decide (q = [(97 : UInt8), (110 : UInt8), (100 : UInt8), (105 : UInt8)]))
 (Tr.ret (SV.v (V1.c (Sc.i IntKind.i64 (5 : Int))), []))
 (Tr.ite (bif decide (q = [(111 : UInt8), (114 : UInt8)]) then true else decide (q = [(111 : UInt8), (114 : UInt8), (105 : UInt8)]))
 (Tr.ret (SV.v (V1.c (Sc.i IntKind.i64 (6 : Int))), []))
 (Tr.ite
 (bif decide (q = [(120 : UInt8), (111 : UInt8), (114 : UInt8)]) then true else decide (q = [(120 : UInt8), (111 : UInt8), (114 : UInt8), (105 : UInt8)]))
 (Tr.ret (SV.v (V1.c (Sc.i IntKind.i64 (7 : Int))), []))
 (Tr.ite (decide (q = [(110 : UInt8), (111 : UInt8), (114 : UInt8)])) (Tr.ret (SV.v (V1.c (Sc.i IntKind.i64 (8 : Int))), []))
 (Tr.ite
 (bif decide (q = [(115 : UInt8), (108 : UInt8), (116 : UInt8)]) then true else decide (q = [(115 : UInt8), (108 : UInt8), (116 : UInt8), (105 : UInt8)]))
 (Tr.ret (SV.v (V1.c (Sc.i IntKind.i64 (9 : Int))), []))
 (Tr.ite
 (bif decide (q = [(115 : UInt8), (108 : UInt8), (116 : UInt8), (117 : UInt8)]) then true
 else decide (q = [(115 : UInt8), (108 : UInt8), (116 : UInt8), (105 : UInt8), (117 : UInt8)]))
 (Tr.ret (SV.v (V1.c (Sc.i IntKind.i64 (10 : Int))), []))
 (Tr.ite (decide (q = [(108 : UInt8), (117 : UInt8), (105 : UInt8)])) (Tr.ret (SV.v (V1.c (Sc.i IntKind.i64 (1 : Int))), []))
 (Tr.ret (SV.v (V1.c (Sc.i IntKind.i64 (-1 : Int))), [])))))))))))))

theorem run_zoetroperef14_kinds (q : List UInt8) (W : List Rw) : runF cx_zoetroperef14_kinds 37 [.tmp 2] (codeOf Try.f22) [(.v (.c (.s q)))] [] W = out_zoetroperef14_kinds q := by kernel_rfl
theorem pf_zoetroperef14_kinds (q : List UInt8) (K : SV × List Bk → Prop) (h : (.ret (.v (.c (.i .i64 (kndN q))), []) : Tr (SV × List Bk)).all K) : (out_zoetroperef14_kinds q).all K := by
  replace h : K _ := h
  unfold out_zoetroperef14_kinds
  simp only [Tr.all]
  repeat' (first | with_reducible apply And.intro | with_reducible intro)
  all_goals (simp only [Bool.cond_true_left, Bool.or_eq_true, Bool.or_eq_false_iff, decide_eq_true_eq, decide_eq_false_iff_not] at *)
  all_goals (refine leafI h ?_; unfold kndN; simp_all)
noncomputable def con_zoetroperef14_kinds : Con := ⟨true, fun args H W => match args, H, W with
  | [(.v (.c (.s q)))], [], _ => .ret (.v (.c (.i .i64 (kndN q))), [])
  | _, _, _ => .stuck 900⟩
theorem ok_zoetroperef14_kinds : ConOK Try.prog 22 con_zoetroperef14_kinds := con_ok (code := (codeOf Try.f22)) (N := 37) (rs := [.tmp 2]) cx_zoetroperef14_kinds_ok 0 Try.func22 rfl rfl rfl (fun _ _ _ _ _ => LpOK.no (by kernel_rfl)) (by
  intro args H W K h hro
  unfold con_zoetroperef14_kinds at h
  simp only at h
  split at h
  · refine ⟨rfl, ?_⟩
    rw [run_zoetroperef14_kinds]
    exact pf_zoetroperef14_kinds _ K h
  · exact h.elim)
end Go.Y
