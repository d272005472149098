/- PRINTED by wip/tools/ybuild.py: contracts of zoetroperef09.Bit, zoetroperef08.Bit, zoetroperef08.With, zoetroperef14.reg, zoetroperef04.is, ir.value. -/
import Derived.Test.YtfckbimkdjcncaaYTyA
import Derived.Test.YtfckbimkdjcncaaG6
import Derived.Test.YtfckbimkdjcncaaYA00
import Derived.Test.YtfckbimkdjcncaaYA01
set_option maxRecDepth 100000
set_option linter.unusedSimpArgs false
set_option linter.unusedVariables false
namespace Go.Y
open Go.Proofs Go.X
open Go.Z (U32 Regs rg kindOf lessOf shiftOf fillOf sg bitAt withBit bnor bor band bxor b01 bitsOf)
noncomputable def cx_zoetroperef09_Bit : Ctx := mkCtx tys eqs [] []
theorem cx_zoetroperef09_Bit_ok : CtxOK Try.prog cx_zoetroperef09_Bit := mkCtx_ok _ mixed tys_ok eqs_ok trivial
noncomputable def out_zoetroperef09_Bit (x : Bool) : Tr (SV × List Bk) :=
Tr.ite x (Tr.ret (SV.v (V1.c (Sc.i IntKind.u32 (1 : Int))), [])) (Tr.ret (SV.v (V1.c (Sc.i IntKind.u32 (0 : Int))), []))

theorem run_zoetroperef09_Bit (x : Bool) (W : List Rw) : runF cx_zoetroperef09_Bit 4 [.tmp 2] (codeOf Try.f33) [(.v (.c (.b x)))] [] W = out_zoetroperef09_Bit x := by kernel_rfl
theorem pf_zoetroperef09_Bit (x : Bool) (K : SV × List Bk → Prop) (h : (.ret (.v (.c (.i .u32 (b01 x))), []) : Tr (SV × List Bk)).all K) : (out_zoetroperef09_Bit x).all K := by
  unfold out_zoetroperef09_Bit
  simp only [Tr.all]
  replace h : K _ := h
  repeat' (first | apply And.intro | intro)
  all_goals first | (refine leafI h ?_; simp_all [b01]) | (omega)
noncomputable def con_zoetroperef09_Bit : Con := ⟨true, fun args H W => match args, H, W with
  | [(.v (.c (.b x)))], [], _ => .ret (.v (.c (.i .u32 (b01 x))), [])
  | _, _, _ => .stuck 900⟩
theorem ok_zoetroperef09_Bit : ConOK Try.prog 33 con_zoetroperef09_Bit := con_ok (code := (codeOf Try.f33)) (N := 4) (rs := [.tmp 2]) cx_zoetroperef09_Bit_ok 0 Try.func33 rfl rfl rfl (fun _ _ _ _ _ => LpOK.no (by kernel_rfl)) (by
  intro args H W K h hro
  unfold con_zoetroperef09_Bit at h
  simp only at h
  split at h
  · refine ⟨rfl, ?_⟩
    rw [run_zoetroperef09_Bit]
    exact pf_zoetroperef09_Bit _ K h
  · exact h.elim)
noncomputable def cx_zoetroperef08_Bit : Ctx := mkCtx tys eqs [] []
theorem cx_zoetroperef08_Bit_ok : CtxOK Try.prog cx_zoetroperef08_Bit := mkCtx_ok _ mixed tys_ok eqs_ok trivial
noncomputable def out_zoetroperef08_Bit (w : Int) (n : Int) : Tr (SV × List Bk) :=
Tr.ass ((0 : Int) ≤ n)
 (Tr.ass ((2 : Int) ≠ (0 : Int))
 (Tr.ret
 (SV.v
 (V1.c
 (Sc.b (decide (Int.tmod (Int.fdiv (IntKind.wrap IntKind.i64 w) ((2 : Int) ^ Min.min (Int.toNat n) (IntKind.bits IntKind.i64))) (2 : Int) = (1 : Int))))),
 [])))

theorem run_zoetroperef08_Bit (w : Int) (n : Int) (W : List Rw) : runF cx_zoetroperef08_Bit 11 [.tmp 4] (codeOf Try.f50) [(.v (.c (.i .u32 w))), (.v (.c (.i .i64 n)))] [] W = out_zoetroperef08_Bit w n := by kernel_rfl
theorem pf_zoetroperef08_Bit (w : Int) (n : Int) (K : SV × List Bk → Prop) (h : (.ass (U32 w ∧ 0 ≤ n ∧ n ≤ 63) (.ret (.v (.c (.b (bitAt w n))), [])) : Tr (SV × List Bk)).all K) : (out_zoetroperef08_Bit w n).all K := by
  obtain ⟨hp, h⟩ := h
  replace h := h hp
  replace h : K _ := h
  obtain ⟨hw, hn⟩ := hp
  have hd := Z.div_range hw (Z.pow_pos' n.toNat)
  refine ⟨by omega, fun _ => ⟨by decide, fun _ => leafB h ?_⟩⟩
  rw [Z.wI64 (by have := hw.1; have := hw.2; omega), Z.shrV (show n ≤ IntKind.i64.bits from by show n ≤ 64; omega), Z.tmod_nn hd.1 (by omega)]
  rfl
noncomputable def con_zoetroperef08_Bit : Con := ⟨true, fun args H W => match args, H, W with
  | [(.v (.c (.i .u32 w))), (.v (.c (.i .i64 n)))], [], _ => .ass (U32 w ∧ 0 ≤ n ∧ n ≤ 63) (.ret (.v (.c (.b (bitAt w n))), []))
  | _, _, _ => .stuck 900⟩
theorem ok_zoetroperef08_Bit : ConOK Try.prog 50 con_zoetroperef08_Bit := con_ok (code := (codeOf Try.f50)) (N := 11) (rs := [.tmp 4]) cx_zoetroperef08_Bit_ok 0 Try.func50 rfl rfl rfl (fun _ _ _ _ _ => LpOK.no (by kernel_rfl)) (by
  intro args H W K h hro
  unfold con_zoetroperef08_Bit at h
  simp only at h
  split at h
  · refine ⟨rfl, ?_⟩
    rw [run_zoetroperef08_Bit]
    exact pf_zoetroperef08_Bit _ _ K h
  · exact h.elim)
noncomputable def cx_zoetroperef08_With : Ctx := mkCtx tys eqs [] []
theorem cx_zoetroperef08_With_ok : CtxOK Try.prog cx_zoetroperef08_With := mkCtx_ok _ mixed tys_ok eqs_ok trivial
noncomputable def out_zoetroperef08_With (w : Int) (n : Int) (x : Bool) : Tr (SV × List Bk) :=
Tr.ass ((0 : Int) ≤ n)
 (Tr.ass (IntKind.wrap IntKind.i64 ((1 : Int) * (2 : Int) ^ Min.min (Int.toNat n) (IntKind.bits IntKind.i64)) ≠ (0 : Int))
 (Tr.ass ((2 : Int) ≠ (0 : Int))
 (Tr.ite x
 (Tr.ret
 (SV.v
 (V1.c
 (Sc.i IntKind.u32
 (IntKind.wrap IntKind.u32
 (IntKind.wrap IntKind.i64
 (IntKind.wrap IntKind.i64
 (IntKind.wrap IntKind.i64 w -
 IntKind.wrap IntKind.i64
 (Int.tmod
 (IntKind.wrap IntKind.i64
 (Int.tdiv (IntKind.wrap IntKind.i64 w) (IntKind.wrap IntKind.i64 ((1 : Int) * (2 : Int) ^ Min.min (Int.toNat n) (IntKind.bits IntKind.i64)))))
 (2 : Int) *
 IntKind.wrap IntKind.i64 ((1 : Int) * (2 : Int) ^ Min.min (Int.toNat n) (IntKind.bits IntKind.i64)))) +
 IntKind.wrap IntKind.i64 ((1 : Int) * (2 : Int) ^ Min.min (Int.toNat n) (IntKind.bits IntKind.i64))))))),
 []))
 (Tr.ret
 (SV.v
 (V1.c
 (Sc.i IntKind.u32
 (IntKind.wrap IntKind.u32
 (IntKind.wrap IntKind.i64
 (IntKind.wrap IntKind.i64 w -
 IntKind.wrap IntKind.i64
 (Int.tmod
 (IntKind.wrap IntKind.i64
 (Int.tdiv (IntKind.wrap IntKind.i64 w) (IntKind.wrap IntKind.i64 ((1 : Int) * (2 : Int) ^ Min.min (Int.toNat n) (IntKind.bits IntKind.i64)))))
 (2 : Int) *
 IntKind.wrap IntKind.i64 ((1 : Int) * (2 : Int) ^ Min.min (Int.toNat n) (IntKind.bits IntKind.i64)))))))),
 [])))))

theorem run_zoetroperef08_With (w : Int) (n : Int) (x : Bool) (W : List Rw) : runF cx_zoetroperef08_With 27 [.tmp 6] (codeOf Try.f51) [(.v (.c (.i .u32 w))), (.v (.c (.i .i64 n))), (.v (.c (.b x)))] [] W = out_zoetroperef08_With w n x := by kernel_rfl
theorem pf_zoetroperef08_With (w : Int) (n : Int) (x : Bool) (K : SV × List Bk → Prop) (h : (.ass (U32 w ∧ 0 ≤ n ∧ n < 32) (.ret (.v (.c (.i .u32 (withBit w n x))), [])) : Tr (SV × List Bk)).all K) : (out_zoetroperef08_With w n x).all K := by
  obtain ⟨hp, h⟩ := h
  replace h := h hp
  replace h : K _ := h
  obtain ⟨hw, hn⟩ := hp
  have hw1 := hw.1
  have hw2 := hw.2
  have hp := Z.pow32' hn
  have hp0 := Z.pow_pos' n.toNat
  have hd := Z.div_range hw hp0
  have ht := Z.bit_mul hw hn
  unfold out_zoetroperef08_With
  simp only [Tr.all]
  rw [Z.shl1_i64 hn, Z.wI64 (z := w) (by omega), Z.quo_i64 (m := w) (by omega) hp0, Z.tmod_nn hd.1 (by omega), Z.wI64 (z := w / 2 ^ n.toNat % 2 * 2 ^ n.toNat) (by omega), Z.wI64 (z := w - w / 2 ^ n.toNat % 2 * 2 ^ n.toNat) (by omega), Z.wI64 (z := w - w / 2 ^ n.toNat % 2 * 2 ^ n.toNat + 2 ^ n.toNat) (by omega)]
  refine ⟨by omega, fun _ => ⟨by omega, fun _ => ⟨by decide, fun _ => ⟨fun hx => leafI h ?_, fun hx => leafI h ?_⟩⟩⟩⟩
  · rw [Z.wU32i (by omega)]; simp [withBit, hx]
  · rw [Z.wU32i (by omega)]; simp [withBit, hx]
noncomputable def con_zoetroperef08_With : Con := ⟨true, fun args H W => match args, H, W with
  | [(.v (.c (.i .u32 w))), (.v (.c (.i .i64 n))), (.v (.c (.b x)))], [], _ => .ass (U32 w ∧ 0 ≤ n ∧ n < 32) (.ret (.v (.c (.i .u32 (withBit w n x))), []))
  | _, _, _ => .stuck 900⟩
theorem ok_zoetroperef08_With : ConOK Try.prog 51 con_zoetroperef08_With := con_ok (code := (codeOf Try.f51)) (N := 27) (rs := [.tmp 6]) cx_zoetroperef08_With_ok 0 Try.func51 rfl rfl rfl (fun _ _ _ _ _ => LpOK.no (by kernel_rfl)) (by
  intro args H W K h hro
  unfold con_zoetroperef08_With at h
  simp only at h
  split at h
  · refine ⟨rfl, ?_⟩
    rw [run_zoetroperef08_With]
    exact pf_zoetroperef08_With _ _ _ K h
  · exact h.elim)
noncomputable def cx_zoetroperef14_reg : Ctx := mkCtx tys eqs [] []
theorem cx_zoetroperef14_reg_ok : CtxOK Try.prog cx_zoetroperef14_reg := mkCtx_ok _ mixed tys_ok eqs_ok trivial
noncomputable def out_zoetroperef14_reg (n : Int) : Tr (SV × List Bk) :=
Tr.ret (SV.v (V1.c (Sc.b (bif decide ((0 : Int) ≤ n) then decide (n ≤ (32 : Int)) else false))), [])

theorem run_zoetroperef14_reg (n : Int) (W : List Rw) : runF cx_zoetroperef14_reg 9 [.tmp 2] (codeOf Try.f28) [(.v (.c (.i .i64 n)))] [] W = out_zoetroperef14_reg n := by kernel_rfl
theorem pf_zoetroperef14_reg (n : Int) (K : SV × List Bk → Prop) (h : (.ret (.v (.c (.b (decide (0 ≤ n ∧ n ≤ 32)))), []) : Tr (SV × List Bk)).all K) : (out_zoetroperef14_reg n).all K := by
  replace h : K _ := h
  refine leafB h ?_
  rw [Bool.eq_iff_iff]; simp
noncomputable def con_zoetroperef14_reg : Con := ⟨true, fun args H W => match args, H, W with
  | [(.v (.c (.i .i64 n)))], [], _ => .ret (.v (.c (.b (decide (0 ≤ n ∧ n ≤ 32)))), [])
  | _, _, _ => .stuck 900⟩
theorem ok_zoetroperef14_reg : ConOK Try.prog 28 con_zoetroperef14_reg := con_ok (code := (codeOf Try.f28)) (N := 9) (rs := [.tmp 2]) cx_zoetroperef14_reg_ok 0 Try.func28 rfl rfl rfl (fun _ _ _ _ _ => LpOK.no (by kernel_rfl)) (by
  intro args H W K h hro
  unfold con_zoetroperef14_reg at h
  simp only at h
  split at h
  · refine ⟨rfl, ?_⟩
    rw [run_zoetroperef14_reg]
    exact pf_zoetroperef14_reg _ K h
  · exact h.elim)
noncomputable def cx_zoetroperef04_is : Ctx := mkCtx tys eqs [] []
theorem cx_zoetroperef04_is_ok : CtxOK Try.prog cx_zoetroperef04_is := mkCtx_ok _ mixed tys_ok eqs_ok trivial
noncomputable def out_zoetroperef04_is (n : Int) : Tr (SV × List Bk) :=
Tr.ret (SV.v (V1.c (Sc.b (bif decide ((0 : Int) ≤ n) then decide (n ≤ (31 : Int)) else false))), [])

theorem run_zoetroperef04_is (n : Int) (W : List Rw) : runF cx_zoetroperef04_is 9 [.tmp 2] (codeOf Try.f52) [(.v (.c (.i .i64 n)))] [] W = out_zoetroperef04_is n := by kernel_rfl
theorem pf_zoetroperef04_is (n : Int) (K : SV × List Bk → Prop) (h : (.ret (.v (.c (.b (decide (0 ≤ n ∧ n ≤ 31)))), []) : Tr (SV × List Bk)).all K) : (out_zoetroperef04_is n).all K := by
  replace h : K _ := h
  refine leafB h ?_
  rw [Bool.eq_iff_iff]; simp
noncomputable def con_zoetroperef04_is : Con := ⟨true, fun args H W => match args, H, W with
  | [(.v (.c (.i .i64 n)))], [], _ => .ret (.v (.c (.b (decide (0 ≤ n ∧ n ≤ 31)))), [])
  | _, _, _ => .stuck 900⟩
theorem ok_zoetroperef04_is : ConOK Try.prog 52 con_zoetroperef04_is := con_ok (code := (codeOf Try.f52)) (N := 9) (rs := [.tmp 2]) cx_zoetroperef04_is_ok 0 Try.func52 rfl rfl rfl (fun _ _ _ _ _ => LpOK.no (by kernel_rfl)) (by
  intro args H W K h hro
  unfold con_zoetroperef04_is at h
  simp only at h
  split at h
  · refine ⟨rfl, ?_⟩
    rw [run_zoetroperef04_is]
    exact pf_zoetroperef04_is _ K h
  · exact h.elim)
noncomputable def cx_ir_value : Ctx := mkCtx tys eqs [] []
theorem cx_ir_value_ok : CtxOK Try.prog cx_ir_value := mkCtx_ok _ mixed tys_ok eqs_ok trivial
noncomputable def out_ir_value (k : Int) (d : Int) (a : Int) (b : Int) (i : Int) (c : Int) (n : Int) (wr : Bool) (r : List (Sh 0)) : Tr (SV × List Bk) :=
Tr.ite (decide (n = (32 : Int))) (Tr.ret (SV.v (V1.c (Sc.i IntKind.u32 i)), [Bk.mk (nat_lit 32) [Seg.arr (nat_lit 0) (nat_lit 32) r] wr]))
 (Tr.ass ((0 : Int) ≤ bits BinOp.and IntKind.i64 n (31 : Int) ∧ bits BinOp.and IntKind.i64 n (31 : Int) < (↑(32 : Nat) : Int))
 (Tr.ass (Int.toNat (bits BinOp.and IntKind.i64 n (31 : Int)) < (32 : Nat))
 (Tr.ret
 (SV.v (V1.c (Sc.i IntKind.u32 (List.getD r (Int.toNat (bits BinOp.and IntKind.i64 n (31 : Int))) (0 : Int)))),
 [Bk.mk (nat_lit 32) [Seg.arr (nat_lit 0) (nat_lit 32) r] wr]))))

theorem run_ir_value (k : Int) (d : Int) (a : Int) (b : Int) (i : Int) (c : Int) (n : Int) (wr : Bool) (r : List (Sh 0)) (W : List Rw) : runF cx_ir_value 17 [.tmp 6] (codeOf Try.f46) [(.v (.agg [.one (.i .i64 k), .one (.i .i64 d), .one (.i .i64 a), .one (.i .i64 b), .one (.i .u32 i), .one (.i .i64 c)])), (.v (.c (.i .i64 n))), (.v (.c (.p 0 0)))] [⟨32, [.arr 0 32 r], wr⟩] W = out_ir_value k d a b i c n wr r := by kernel_rfl
theorem pf_ir_value (k : Int) (d : Int) (a : Int) (b : Int) (i : Int) (c : Int) (n : Int) (wr : Bool) (r : List (Sh 0)) (K : SV × List Bk → Prop) (h : (.ret (.v (.c (.i .u32 (valueOf i n r))), [⟨32, [.arr 0 32 r], wr⟩]) : Tr (SV × List Bk)).all K) : (out_ir_value k d a b i c n wr r).all K := by
  replace h : K _ := h
  unfold out_ir_value
  simp only [Tr.all]
  have hb31 : bits .and .i64 n 31 = n % 32 := Z.bM_i64 5 (by decide) (by decide) (by decide)
  rw [hb31]
  refine ⟨fun h1 => leafI h ?_, fun h1 => ⟨by omega, fun _ => ⟨by omega, fun _ => leafI h ?_⟩⟩⟩
  · have : n = 32 := by simpa using h1
    rw [valueOf, if_pos this]
  · have : ¬ n = 32 := by simpa using h1
    rw [valueOf, if_neg this]; rfl
noncomputable def con_ir_value : Con := ⟨true, fun args H W => match args, H, W with
  | [(.v (.agg [.one (.i .i64 k), .one (.i .i64 d), .one (.i .i64 a), .one (.i .i64 b), .one (.i .u32 i), .one (.i .i64 c)])), (.v (.c (.i .i64 n))), (.v (.c (.p 0 0)))], [⟨32, [.arr 0 32 r], wr⟩], _ => .ret (.v (.c (.i .u32 (valueOf i n r))), [⟨32, [.arr 0 32 r], wr⟩])
  | _, _, _ => .stuck 900⟩
theorem ok_ir_value : ConOK Try.prog 46 con_ir_value := con_ok (code := (codeOf Try.f46)) (N := 17) (rs := [.tmp 6]) cx_ir_value_ok 1 Try.func46 rfl rfl rfl (fun _ _ _ _ _ => LpOK.no (by kernel_rfl)) (by
  intro args H W K h hro
  unfold con_ir_value at h
  simp only at h
  split at h
  · refine ⟨rfl, ?_⟩
    rw [run_ir_value]
    exact pf_ir_value _ _ _ _ _ _ _ _ _ K h
  · exact h.elim)
end Go.Y
