/- PRINTED by wip/tools/ybuild.py: contracts of ir.fits, ir.Value, zoetroperef01.Shift, zoetroperef14.bits. -/
import Derived.Test.YtfckbimkdjcncaaYTyA
import Derived.Test.YtfckbimkdjcncaaG6
import Derived.Test.YtfckbimkdjcncaaYA00
import Derived.Test.YtfckbimkdjcncaaYA01
import Derived.Test.YtfckbimkdjcncaaYA02
set_option maxRecDepth 100000
set_option linter.unusedSimpArgs false
set_option linter.unusedVariables false
namespace Go.Y
open Go.Proofs Go.X
open Go.Z (U32 Regs rg kindOf lessOf shiftOf fillOf sg bitAt withBit bnor bor band bxor b01 bitsOf)
noncomputable def cx_ir_fits : Ctx := mkCtx tys eqs [] []
theorem cx_ir_fits_ok : CtxOK Try.prog cx_ir_fits := mkCtx_ok _ mixed tys_ok eqs_ok trivial
noncomputable def out_ir_fits (k : Int) (d : Int) (a : Int) (b : Int) (i : Int) (c : Int) : Tr (SV × List Bk) :=
Tr.ite
 (bif
 bif bif bif decide (k < (0 : Int)) then true else decide ((14 : Int) ≤ k) then true else decide (c < (0 : Int)) then true
 else decide ((16 : Int) < c) then
 true
 else
 bif bif bif !decide (a = (32 : Int)) then !decide (b = (32 : Int)) else false then !decide (k = (1 : Int)) else false then !decide (i = (0 : Int))
 else false)
 (Tr.ret (SV.v (V1.c (Sc.b false)), []))
 (Tr.ite (decide (k = (0 : Int)))
 (Tr.ret
 (SV.v (V1.c (Sc.b (bif bif decide (d = (0 : Int)) then decide (a = (0 : Int)) else false then decide (b = (0 : Int)) else false))), []))
 (Tr.ite
 (bif
 bif
 bif bif bif decide (d < (1 : Int)) then true else decide ((31 : Int) < d) then true else decide (a < (0 : Int)) then true
 else decide ((32 : Int) < a) then
 true
 else decide (b < (0 : Int)) then
 true
 else decide ((32 : Int) < b))
 (Tr.ret (SV.v (V1.c (Sc.b false)), []))
 (Tr.ite (decide (k = (1 : Int))) (Tr.ret (SV.v (V1.c (Sc.b (bif decide (a = (0 : Int)) then decide (b = (0 : Int)) else false))), []))
 (Tr.ret (SV.v (V1.c (Sc.b (bif !decide (k = (2 : Int)) then true else decide (b = (0 : Int))))), [])))))

theorem run_ir_fits (k : Int) (d : Int) (a : Int) (b : Int) (i : Int) (c : Int) (W : List Rw) : runF cx_ir_fits 110 [.tmp 2] (codeOf Try.f27) [(.v (.agg [.one (.i .i64 k), .one (.i .i64 d), .one (.i .i64 a), .one (.i .i64 b), .one (.i .u32 i), .one (.i .i64 c)]))] [] W = out_ir_fits k d a b i c := by kernel_rfl
theorem pf_ir_fits (k : Int) (d : Int) (a : Int) (b : Int) (i : Int) (c : Int) (K : SV × List Bk → Prop) (h : (.ret (.v (.c (.b (decide (fitsP ⟨k, d, a, b, i, c⟩)))), []) : Tr (SV × List Bk)).all K) : (out_ir_fits k d a b i c).all K := by
  replace h : K _ := h
  unfold out_ir_fits
  simp only [Tr.all]
  repeat' (first | apply And.intro | intro)
  all_goals (refine leafB h ?_; first | (refine decide_eq_false (fun hf => ?_); unfold fitsP at hf; simp only [Bool.cond_false_right, Bool.cond_true_left, Bool.cond_false_left, Bool.cond_true_right, Bool.and_eq_true, Bool.or_eq_true, Bool.not_eq_true', Bool.and_eq_false_iff, Bool.or_eq_false_iff, Bool.not_eq_false', decide_eq_true_eq, decide_eq_false_iff_not, bne_iff_ne, beq_iff_eq, beq_eq_false_iff_ne, ne_eq, Bool.not_true, Bool.not_false, Bool.true_eq_false, Bool.false_eq_true] at *; omega) | (rw [Bool.eq_iff_iff, decide_eq_true_iff]; unfold fitsP; simp only [Bool.cond_false_right, Bool.cond_true_left, Bool.cond_false_left, Bool.cond_true_right, Bool.and_eq_true, Bool.or_eq_true, Bool.not_eq_true', Bool.and_eq_false_iff, Bool.or_eq_false_iff, Bool.not_eq_false', decide_eq_true_eq, decide_eq_false_iff_not, bne_iff_ne, beq_iff_eq, beq_eq_false_iff_ne, ne_eq, Bool.not_true, Bool.not_false, Bool.true_eq_false, Bool.false_eq_true] at *; refine ⟨fun hh => ?_, fun hh => ?_⟩ <;> (repeat' (first | apply And.intro | intro)) <;> omega))
noncomputable def con_ir_fits : Con := ⟨true, fun args H W => match args, H, W with
  | [(.v (.agg [.one (.i .i64 k), .one (.i .i64 d), .one (.i .i64 a), .one (.i .i64 b), .one (.i .u32 i), .one (.i .i64 c)]))], [], _ => .ret (.v (.c (.b (decide (fitsP ⟨k, d, a, b, i, c⟩)))), [])
  | _, _, _ => .stuck 900⟩
theorem ok_ir_fits : ConOK Try.prog 27 con_ir_fits := con_ok (code := (codeOf Try.f27)) (N := 110) (rs := [.tmp 2]) cx_ir_fits_ok 0 Try.func27 rfl rfl rfl (fun _ _ _ _ _ => LpOK.no (by kernel_rfl)) (by
  intro args H W K h hro
  unfold con_ir_fits at h
  simp only at h
  split at h
  · refine ⟨rfl, ?_⟩
    rw [run_ir_fits]
    exact pf_ir_fits _ _ _ _ _ _ K h
  · exact h.elim)
noncomputable def cx_ir_Value : Ctx := mkCtx tys eqs [(31, con_words_Less), (30, con_ir_bit), (32, con_words_Shift)] []
theorem cx_ir_Value_ok : CtxOK Try.prog cx_ir_Value := mkCtx_ok _ mixed tys_ok eqs_ok ⟨⟨ok_words_Less, Try.call31⟩, ⟨⟨ok_ir_bit, Try.call30⟩, ⟨⟨ok_words_Shift, Try.call32⟩, trivial⟩⟩⟩
noncomputable def out_ir_Value (k : Int) (a : Int) (b : Int) (i : Int) : Tr (SV × List Bk) :=
Tr.ite (decide (k = (1 : Int))) (Tr.ret (SV.v (V1.c (Sc.i IntKind.u32 i)), []))
 (Tr.ite (decide (k = (2 : Int))) (Tr.ret (SV.v (V1.c (Sc.i IntKind.u32 a)), []))
 (Tr.ite (decide (k = (3 : Int))) (Tr.ret (SV.v (V1.c (Sc.i IntKind.u32 (IntKind.wrap IntKind.u32 (a + b)))), []))
 (Tr.ite (decide (k = (4 : Int))) (Tr.ret (SV.v (V1.c (Sc.i IntKind.u32 (IntKind.wrap IntKind.u32 (a - b)))), []))
 (Tr.ite (decide (k = (5 : Int))) (Tr.ret (SV.v (V1.c (Sc.i IntKind.u32 (bits BinOp.and IntKind.u32 a b))), []))
 (Tr.ite (decide (k = (6 : Int))) (Tr.ret (SV.v (V1.c (Sc.i IntKind.u32 (bits BinOp.or IntKind.u32 a b))), []))
 (Tr.ite (decide (k = (7 : Int))) (Tr.ret (SV.v (V1.c (Sc.i IntKind.u32 (bits BinOp.xor IntKind.u32 a b))), []))
 (Tr.ite (decide (k = (8 : Int)))
 (Tr.ret
 (SV.v
 (V1.c
 (Sc.i IntKind.u32
 (bits BinOp.xor IntKind.u32 (if IntKind.signed IntKind.u32 = true then (-1 : Int) else IntKind.max IntKind.u32)
 (bits BinOp.or IntKind.u32 a b)))),
 []))
 (Tr.ite (decide (k = (9 : Int)))
 (Tr.ass (Z.U32 a ∧ Z.U32 b) (Tr.ret (SV.v (V1.c (Sc.i IntKind.u32 (Z.b01 (Z.lessOf a b true)))), [])))
 (Tr.ite (decide (k = (10 : Int)))
 (Tr.ass (Z.U32 a ∧ Z.U32 b) (Tr.ret (SV.v (V1.c (Sc.i IntKind.u32 (Z.b01 (Z.lessOf a b false)))), [])))
 (Tr.ite (decide (k = (11 : Int)))
 (Tr.ass (Z.U32 a)
 (Tr.ret
 (SV.v (V1.c (Sc.i IntKind.u32 (Z.shiftOf (0 : Int) a (IntKind.wrap IntKind.i64 (bits BinOp.and IntKind.u32 b (31 : Int)))))), [])))
 (Tr.ite (decide (k = (12 : Int)))
 (Tr.ass (Z.U32 a)
 (Tr.ret
 (SV.v (V1.c (Sc.i IntKind.u32 (Z.shiftOf (1 : Int) a (IntKind.wrap IntKind.i64 (bits BinOp.and IntKind.u32 b (31 : Int)))))), [])))
 (Tr.ass (Z.U32 a)
 (Tr.ret
 (SV.v (V1.c (Sc.i IntKind.u32 (Z.shiftOf (2 : Int) a (IntKind.wrap IntKind.i64 (bits BinOp.and IntKind.u32 b (31 : Int)))))),
 []))))))))))))))

theorem run_ir_Value (k : Int) (a : Int) (b : Int) (i : Int) (W : List Rw) : runF cx_ir_Value 78 [.tmp 8] (codeOf Try.f18) [(.v (.c (.i .i64 k))), (.v (.c (.i .u32 a))), (.v (.c (.i .u32 b))), (.v (.c (.i .u32 i)))] [] W = out_ir_Value k a b i := by kernel_rfl
theorem pf_ir_Value (k : Int) (a : Int) (b : Int) (i : Int) (K : SV × List Bk → Prop) (h : (.ass (U32 a ∧ U32 b ∧ U32 i) (.ret (.v (.c (.i .u32 (Z.valOf k a b i))), [])) : Tr (SV × List Bk)).all K) : (out_ir_Value k a b i).all K := by
  obtain ⟨hp, h⟩ := h
  replace h := h hp
  replace h : K _ := h
  obtain ⟨ha, hb, hi⟩ := hp
  have hb31 : bits .and .u32 b 31 = b % 32 := Z.bM_u32 5 (by decide) (by decide) (by decide) hb
  have hw : IntKind.i64.wrap (b % 32) = b % 32 := Z.wI64 (by omega)
  unfold out_ir_Value
  simp only [Tr.all]
  rw [hb31, hw, Z.band_eq ha hb, Z.bor_eq ha hb, Z.bxor_eq ha hb, Z.compl_u32 (Z.bor_u32 ha hb)]
  repeat' (first | apply And.intro | intro)
  all_goals first | exact ha | exact hb | exact ⟨ha, hb⟩ | exact ha.1 | exact ha.2 | exact hb.1 | exact hb.2 | (refine leafI h ?_; simp only [Bool.cond_false_right, Bool.cond_true_left, Bool.cond_false_left, Bool.cond_true_right, Bool.and_eq_true, Bool.or_eq_true, Bool.not_eq_true', Bool.and_eq_false_iff, Bool.or_eq_false_iff, Bool.not_eq_false', decide_eq_true_eq, decide_eq_false_iff_not, bne_iff_ne, beq_iff_eq, beq_eq_false_iff_ne, ne_eq, Bool.not_true, Bool.not_false, Bool.true_eq_false, Bool.false_eq_true] at *; simp_all [Z.valOf, bnor, b01, Z.wU32]; done)
noncomputable def con_ir_Value : Con := ⟨true, fun args H W => match args, H, W with
  | [(.v (.c (.i .i64 k))), (.v (.c (.i .u32 a))), (.v (.c (.i .u32 b))), (.v (.c (.i .u32 i)))], [], _ => .ass (U32 a ∧ U32 b ∧ U32 i) (.ret (.v (.c (.i .u32 (Z.valOf k a b i))), []))
  | _, _, _ => .stuck 900⟩
theorem ok_ir_Value : ConOK Try.prog 18 con_ir_Value := con_ok (code := (codeOf Try.f18)) (N := 78) (rs := [.tmp 8]) cx_ir_Value_ok 0 Try.func18 rfl rfl rfl (fun _ _ _ _ _ => LpOK.no (by kernel_rfl)) (by
  intro args H W K h hro
  unfold con_ir_Value at h
  simp only at h
  split at h
  · refine ⟨rfl, ?_⟩
    rw [run_ir_Value]
    exact pf_ir_Value _ _ _ _ K h
  · exact h.elim)
noncomputable def lp_ref01_Shift : LpT := fun e H W => match canE 0 [0, 1, 2, 7, 8] e H, W with
  | some ([(.v (.c (.i .i64 k))), (.v (.c (.i .u32 a))), (.v (.c (.i .i64 n))), (.v (.c (.i .i64 p))), (.v (.c (.i .i64 i)))], []), W => .ass (p = 2 ^ 0 ∧ i = ((0 : Nat) : Int)) (.ret (.ex 0, zipE [0, 1, 2, 7, 8] [.v (.c (.i .i64 (k))), .v (.c (.i .u32 (a))), .v (.c (.i .i64 (n))), .v (.c (.i .i64 (2 ^ (n % 32).toNat))), .v (.c (.i .i64 ((n % 32))))], []))
  | _, _ => .stuck 901
noncomputable def cx_zoetroperef01_Shift : Ctx := mkCtx tys eqs [(48, con_zoetroperef01_mod), (23, con_zoetroperef01_Word), (34, con_zoetroperef01_Mean), (49, con_zoetroperef01_down)] [(3, lp_ref01_Shift)]
theorem cx_zoetroperef01_Shift_ok : CtxOK Try.prog cx_zoetroperef01_Shift := mkCtx_ok _ mixed tys_ok eqs_ok ⟨⟨ok_zoetroperef01_mod, Try.call48⟩, ⟨⟨ok_zoetroperef01_Word, Try.call23⟩, ⟨⟨ok_zoetroperef01_Mean, Try.call34⟩, ⟨⟨ok_zoetroperef01_down, Try.call49⟩, trivial⟩⟩⟩⟩
noncomputable def outr_lp_ref01_Shift (k : Int) (a : Int) (n : Int) (p : Int) (i : Int) : Tr (X × List SV × List Bk) :=
Tr.ite (decide (i < n % (32 : Int)))
 (Tr.ret
 (X.nor,
 [SV.v (V1.c (Sc.i IntKind.i64 k)), SV.v (V1.c (Sc.i IntKind.u32 a)), SV.v (V1.c (Sc.i IntKind.i64 n)),
 SV.v (V1.c (Sc.i IntKind.i64 (IntKind.wrap IntKind.i64 (p * (2 : Int))))),
 SV.v (V1.c (Sc.i IntKind.i64 (IntKind.wrap IntKind.i64 (i + (1 : Int)))))],
 []))
 (Tr.ret
 (X.ex (nat_lit 0),
 [SV.v (V1.c (Sc.i IntKind.i64 k)), SV.v (V1.c (Sc.i IntKind.u32 a)), SV.v (V1.c (Sc.i IntKind.i64 n)),
 SV.v (V1.c (Sc.i IntKind.i64 p)), SV.v (V1.c (Sc.i IntKind.i64 i))],
 []))

theorem rnd_lp_ref01_Shift (k : Int) (a : Int) (n : Int) (p : Int) (i : Int) (W : List Rw) : rnd cx_zoetroperef01_Shift 43 W (loopC 3 (codeOf Try.f35)) [0, 1, 2, 7, 8] 0 (zipE [0, 1, 2, 7, 8] [(.v (.c (.i .i64 k))), (.v (.c (.i .u32 a))), (.v (.c (.i .i64 n))), (.v (.c (.i .i64 p))), (.v (.c (.i .i64 i)))]) [] = outr_lp_ref01_Shift k a n p i := by kernel_rfl
theorem lpp_lp_ref01_Shift {c0 : Z.Cx} {ρ0 : List Nat} (k : Int) (a : Int) (n : Int) (p : Int) (i : Int) (W : List Rw) (hR : repR W c0.R) (hne : ρ0.length ≤ 0) {Q : Exit → Act → World → Prop} {e : Env} {H : List Bk} (hsel : canE 0 [0, 1, 2, 7, 8] e H = some ([(.v (.c (.i .i64 k))), (.v (.c (.i .u32 a))), (.v (.c (.i .i64 n))), (.v (.c (.i .i64 p))), (.v (.c (.i .i64 i)))], [])) (h : (.ass (p = 2 ^ 0 ∧ i = ((0 : Nat) : Int)) (.ret (.ex 0, zipE [0, 1, 2, 7, 8] [.v (.c (.i .i64 (k))), .v (.c (.i .u32 (a))), .v (.c (.i .i64 (n))), .v (.c (.i .i64 (2 ^ (n % 32).toNat))), .v (.c (.i .i64 ((n % 32))))], [])) : Tr (X × Env × List Bk)).all (fun y => YE c0 ρ0 Q 43 (toX y.1) y.2.1 y.2.2)) : YC Try.prog c0 ρ0 Q 43 (.loop (loopC 3 (codeOf Try.f35))) e H := by
  obtain ⟨hp, h⟩ := h
  replace h := h hp
  obtain ⟨rfl, rfl⟩ := hp
  refine YC.canon hne hsel ?_
  have key := loop_sound (P := Try.prog) (c := c0) (ρ0 := ρ0) (N := 43) (Q := Q) cx_zoetroperef01_Shift_ok hR (LpOK.no (by kernel_rfl)) [0, 1, 2, 7, 8] 0 hne (σ := Nat) (body := (loopC 3 (codeOf Try.f35))) (fun s => [.v (.c (.i .i64 (k))), .v (.c (.i .u32 (a))), .v (.c (.i .i64 (n))), .v (.c (.i .i64 (2 ^ s))), .v (.c (.i .i64 ((s : Int))))]) (fun _ => []) (fun s => s ≤ (n % 32).toNat) (fun s => (n % 32).toNat - s) (fun y => y = (.ex 0, [.v (.c (.i .i64 (k))), .v (.c (.i .u32 (a))), .v (.c (.i .i64 (n))), .v (.c (.i .i64 (2 ^ (n % 32).toNat))), .v (.c (.i .i64 ((n % 32))))], [])) ?round ?post 0 (by omega)
  case round =>
    intro s hI
    rw [rnd_lp_ref01_Shift]
    unfold outr_lp_ref01_Shift
    simp only [Tr.all]
    refine ⟨fun hc => Or.inl ⟨trivial, s + 1, ?_, ?_, ?_, trivial⟩, fun hc => Or.inr ⟨nofun, ?_⟩⟩
    · have hc := of_decide_eq_true hc; omega
    · have hc := of_decide_eq_true hc; omega
    · have hc := of_decide_eq_true hc
      rw [Z.pow_step (n := n) (by omega), Z.wI64 (by omega)]; rfl
    · have hc := of_decide_eq_false hc
      obtain rfl : s = (n % 32).toNat := by omega
      rw [show (((n % 32).toNat : Nat) : Int) = n % 32 by omega]
  case post =>
    intro y hy hp
    subst hp
    exact h
  exact key
theorem lpc_lp_ref01_Shift (c : Z.Cx) (ρ0 : List Nat) (W : List Rw) (hR : repR W c.R) (hne : ρ0.length ≤ 0) : ∀ Q e H, (lp_ref01_Shift e H W).all (fun y => YE c ρ0 Q 43 (toX y.1) y.2.1 y.2.2) → YC Try.prog c ρ0 Q 43 (.loop (loopC 3 (codeOf Try.f35))) e H := by
  intro Q e H h
  unfold lp_ref01_Shift at h
  (try simp only at h)
  split at h
  · rename_i heq
    exact lpp_lp_ref01_Shift _ _ _ _ _ _ hR hne (by assumption) h
  · exact h.elim
noncomputable def out_zoetroperef01_Shift (k : Int) (a : Int) (n : Int) : Tr (SV × List Bk) :=
Tr.ass ((1 : Int) = (2 : Int) ^ (0 : Nat) ∧ (0 : Int) = (↑(0 : Nat) : Int))
 (Tr.ite (decide (k = (0 : Int)))
 (Tr.ass ((2 : Int) ^ Int.toNat (n % (32 : Int)) ≠ (0 : Int))
 (Tr.ass (IntKind.wrap IntKind.i64 (Int.tdiv (4294967296 : Int) ((2 : Int) ^ Int.toNat (n % (32 : Int)))) ≠ (0 : Int))
 (Tr.ret
 (SV.v
 (V1.c
 (Sc.i IntKind.u32
 (IntKind.wrap IntKind.i64
 (Int.tmod (IntKind.wrap IntKind.i64 a) (IntKind.wrap IntKind.i64 (Int.tdiv (4294967296 : Int) ((2 : Int) ^ Int.toNat (n % (32 : Int))))) *
 (2 : Int) ^ Int.toNat (n % (32 : Int))) %
 (4294967296 : Int)))),
 []))))
 (Tr.ite (decide (k = (1 : Int)))
 (Tr.ass ((2 : Int) ^ Int.toNat (n % (32 : Int)) ≠ (0 : Int))
 (Tr.ret
 (SV.v
 (V1.c (Sc.i IntKind.u32 (IntKind.wrap IntKind.i64 (Int.tdiv (IntKind.wrap IntKind.i64 a) ((2 : Int) ^ Int.toNat (n % (32 : Int)))) % (4294967296 : Int)))),
 [])))
 (Tr.ite (decide (k = (2 : Int)))
 (Tr.ass (Z.U32 a)
 (Tr.ass
 (((-4294967296 : Int) ≤ Z.sg a ∧ Z.sg a ≤ (4294967296 : Int)) ∧ (0 : Int) < (2 : Int) ^ Int.toNat (n % (32 : Int)) ∧ (2 : Int) ^ Int.toNat (n % (32 : Int)) ≤ (4294967296 : Int))
 (Tr.ret (SV.v (V1.c (Sc.i IntKind.u32 (Z.sg a / (2 : Int) ^ Int.toNat (n % (32 : Int)) % (4294967296 : Int)))), []))))
 (Tr.ret (SV.v (V1.c (Sc.i IntKind.u32 a)), [])))))

theorem run_zoetroperef01_Shift (k : Int) (a : Int) (n : Int) (W : List Rw) : runF cx_zoetroperef01_Shift 43 [.tmp 6] (codeOf Try.f35) [(.v (.c (.i .i64 k))), (.v (.c (.i .u32 a))), (.v (.c (.i .i64 n)))] [] W = out_zoetroperef01_Shift k a n := by kernel_rfl
theorem pf_zoetroperef01_Shift (k : Int) (a : Int) (n : Int) (K : SV × List Bk → Prop) (h : (.ass (U32 a) (.ret (.v (.c (.i .u32 (shiftOf k a n))), [])) : Tr (SV × List Bk)).all K) : (out_zoetroperef01_Shift k a n).all K := by
  obtain ⟨hp, h⟩ := h
  replace h := h hp
  replace h : K _ := h
  unfold out_zoetroperef01_Shift
  simp only [Tr.all]
  have hm : (n % 32).toNat ≤ 31 := by omega
  have ht := Z.top_mul (n % 32).toNat hm
  have hp0 := Z.pow_pos' (n % 32).toNat
  have hp1 := Z.pow32 (n := n)
  have hsg := Z.sg_range hp
  have hp3 := hp.1
  have hp4 := hp.2
  have hs := Z.shl_mod_u32 (a := a) _ hm
  have hs1 := hs.1
  have hs2 := hs.2
  rw [Z.quo_i64 (by omega) hp0, Z.wI64 (z := a) (by omega), Z.tmod_nn hp.1 ht.2, Z.wI64 (z := a % (4294967296 / 2 ^ (n % 32).toNat) * 2 ^ (n % 32).toNat) (by omega), Z.quo_i64 (by omega) hp0, Z.shl_mod _ hm]
  refine ⟨⟨rfl, rfl⟩, fun _ => ⟨fun h1 => ⟨by omega, fun _ => ⟨by omega, fun _ => leafI h ?_⟩⟩, fun h1 => ⟨fun h2 => ⟨by omega, fun _ => leafI h ?_⟩, fun h2 => ⟨fun h3 => ⟨hp, fun _ => ⟨by omega, fun _ => leafI h ?_⟩⟩, fun h3 => leafI h ?_⟩⟩⟩⟩
  all_goals (try simp only [decide_eq_true_eq, decide_eq_false_iff_not] at *)
  · simp [shiftOf, h1]
  · have hd := Z.div_range hp hp0
    have := hd.1; have := hd.2
    simp only [shiftOf, if_neg h1, if_pos h2]; omega
  · simp only [shiftOf, if_neg h1, if_neg h2, if_pos h3]
  · simp only [shiftOf, if_neg h1, if_neg h2, if_neg h3]
noncomputable def con_zoetroperef01_Shift : Con := ⟨true, fun args H W => match args, H, W with
  | [(.v (.c (.i .i64 k))), (.v (.c (.i .u32 a))), (.v (.c (.i .i64 n)))], [], _ => .ass (U32 a) (.ret (.v (.c (.i .u32 (shiftOf k a n))), []))
  | _, _, _ => .stuck 900⟩
theorem lpok_zoetroperef01_Shift (c : Z.Cx) (ρ0 : List Nat) (W : List Rw) (hR : repR W c.R) (hne : ρ0.length ≤ 0) : LpOK Try.prog cx_zoetroperef01_Shift c ρ0 43 W (codeOf Try.f35) := LpOK.all (ls := [((loopC 3 (codeOf Try.f35)), lp_ref01_Shift)]) (by kernel_rfl) ⟨⟨(by kernel_rfl), lpc_lp_ref01_Shift c ρ0 W hR hne⟩, trivial⟩
theorem ok_zoetroperef01_Shift : ConOK Try.prog 35 con_zoetroperef01_Shift := con_ok (code := (codeOf Try.f35)) (N := 43) (rs := [.tmp 6]) cx_zoetroperef01_Shift_ok 0 Try.func35 rfl rfl rfl lpok_zoetroperef01_Shift (by
  intro args H W K h hro
  unfold con_zoetroperef01_Shift at h
  simp only at h
  split at h
  · refine ⟨rfl, ?_⟩
    rw [run_zoetroperef01_Shift]
    exact pf_zoetroperef01_Shift _ _ _ K h
  · exact h.elim)
noncomputable def lp_ref14_bits : LpT := fun e H W => match canE 0 [0, 1, 2, 7, 8] e H, W with
  | some ([(.v (.c (.i .i64 k))), (.v (.c (.i .u32 a))), (.v (.c (.i .u32 b))), (.v (.c (.i .u32 p))), (.v (.c (.i .i64 i)))], []), W => .ass (U32 a ∧ U32 b ∧ p = 0 ∧ i = ((0 : Nat) : Int)) (.ret (.ex 0, zipE [0, 1, 2, 7, 8] [.v (.c (.i .i64 (k))), .v (.c (.i .u32 (a))), .v (.c (.i .u32 (b))), .v (.c (.i .u32 (bitsOf k a b))), .v (.c (.i .i64 (32)))], []))
  | _, _ => .stuck 901
noncomputable def cx_zoetroperef14_bits : Ctx := mkCtx tys eqs [(50, con_zoetroperef08_Bit), (51, con_zoetroperef08_With)] [(3, lp_ref14_bits)]
theorem cx_zoetroperef14_bits_ok : CtxOK Try.prog cx_zoetroperef14_bits := mkCtx_ok _ mixed tys_ok eqs_ok ⟨⟨ok_zoetroperef08_Bit, Try.call50⟩, ⟨⟨ok_zoetroperef08_With, Try.call51⟩, trivial⟩⟩
noncomputable def outr_lp_ref14_bits (k : Int) (a : Int) (b : Int) (p : Int) (i : Int) : Tr (X × List SV × List Bk) :=
Tr.ite (decide (i < (32 : Int)))
 (Tr.ass (Z.U32 a ∧ (0 : Int) ≤ i ∧ i ≤ (63 : Int))
 (Tr.ass (Z.U32 b ∧ (0 : Int) ≤ i ∧ i ≤ (63 : Int))
 (Tr.ite (decide (k = (6 : Int)))
 (Tr.ite (decide (k = (7 : Int)))
 (Tr.ite (decide (k = (8 : Int)))
 (Tr.ass (Z.U32 p ∧ (0 : Int) ≤ i ∧ i < (32 : Int))
 (Tr.ret
 (X.nor,
 [SV.v (V1.c (Sc.i IntKind.i64 k)), SV.v (V1.c (Sc.i IntKind.u32 a)), SV.v (V1.c (Sc.i IntKind.u32 b)),
 SV.v (V1.c (Sc.i IntKind.u32 (Z.withBit p i (bif !Z.bitAt a i then !Z.bitAt b i else false)))),
 SV.v (V1.c (Sc.i IntKind.i64 (IntKind.wrap IntKind.i64 (i + (1 : Int)))))],
 [])))
 (Tr.ass (Z.U32 p ∧ (0 : Int) ≤ i ∧ i < (32 : Int))
 (Tr.ret
 (X.nor,
 [SV.v (V1.c (Sc.i IntKind.i64 k)), SV.v (V1.c (Sc.i IntKind.u32 a)), SV.v (V1.c (Sc.i IntKind.u32 b)),
 SV.v (V1.c (Sc.i IntKind.u32 (Z.withBit p i !Z.bitAt a i == Z.bitAt b i))),
 SV.v (V1.c (Sc.i IntKind.i64 (IntKind.wrap IntKind.i64 (i + (1 : Int)))))],
 []))))
 (Tr.ite (decide (k = (8 : Int)))
 (Tr.ass (Z.U32 p ∧ (0 : Int) ≤ i ∧ i < (32 : Int))
 (Tr.ret
 (X.nor,
 [SV.v (V1.c (Sc.i IntKind.i64 k)), SV.v (V1.c (Sc.i IntKind.u32 a)), SV.v (V1.c (Sc.i IntKind.u32 b)),
 SV.v (V1.c (Sc.i IntKind.u32 (Z.withBit p i (bif !Z.bitAt a i then !Z.bitAt b i else false)))),
 SV.v (V1.c (Sc.i IntKind.i64 (IntKind.wrap IntKind.i64 (i + (1 : Int)))))],
 [])))
 (Tr.ass (Z.U32 p ∧ (0 : Int) ≤ i ∧ i < (32 : Int))
 (Tr.ret
 (X.nor,
 [SV.v (V1.c (Sc.i IntKind.i64 k)), SV.v (V1.c (Sc.i IntKind.u32 a)), SV.v (V1.c (Sc.i IntKind.u32 b)),
 SV.v (V1.c (Sc.i IntKind.u32 (Z.withBit p i (bif Z.bitAt a i then true else Z.bitAt b i)))),
 SV.v (V1.c (Sc.i IntKind.i64 (IntKind.wrap IntKind.i64 (i + (1 : Int)))))],
 [])))))
 (Tr.ite (decide (k = (7 : Int)))
 (Tr.ite (decide (k = (8 : Int)))
 (Tr.ass (Z.U32 p ∧ (0 : Int) ≤ i ∧ i < (32 : Int))
 (Tr.ret
 (X.nor,
 [SV.v (V1.c (Sc.i IntKind.i64 k)), SV.v (V1.c (Sc.i IntKind.u32 a)), SV.v (V1.c (Sc.i IntKind.u32 b)),
 SV.v (V1.c (Sc.i IntKind.u32 (Z.withBit p i (bif !Z.bitAt a i then !Z.bitAt b i else false)))),
 SV.v (V1.c (Sc.i IntKind.i64 (IntKind.wrap IntKind.i64 (i + (1 : Int)))))],
 [])))
 (Tr.ass (Z.U32 p ∧ (0 : Int) ≤ i ∧ i < (32 : Int))
 (Tr.ret
 (X.nor,
 [SV.v (V1.c (Sc.i IntKind.i64 k)), SV.v (V1.c (Sc.i IntKind.u32 a)), SV.v (V1.c (Sc.i IntKind.u32 b)),
 SV.v (V1.c (Sc.i IntKind.u32 (Z.withBit p i !Z.bitAt a i == Z.bitAt b i))),
 SV.v (V1.c (Sc.i IntKind.i64 (IntKind.wrap IntKind.i64 (i + (1 : Int)))))],
 []))))
 (Tr.ite (decide (k = (8 : Int)))
 (Tr.ass (Z.U32 p ∧ (0 : Int) ≤ i ∧ i < (32 : Int))
 (Tr.ret
 (X.nor,
 [SV.v (V1.c (Sc.i IntKind.i64 k)), SV.v (V1.c (Sc.i IntKind.u32 a)), SV.v (V1.c (Sc.i IntKind.u32 b)),
 SV.v (V1.c (Sc.i IntKind.u32 (Z.withBit p i (bif !Z.bitAt a i then !Z.bitAt b i else false)))),
 SV.v (V1.c (Sc.i IntKind.i64 (IntKind.wrap IntKind.i64 (i + (1 : Int)))))],
 [])))
 (Tr.ass (Z.U32 p ∧ (0 : Int) ≤ i ∧ i < (32 : Int))
 (Tr.ret
 (X.nor,
 [SV.v (V1.c (Sc.i IntKind.i64 k)), SV.v (V1.c (Sc.i IntKind.u32 a)), SV.v (V1.c (Sc.i IntKind.u32 b)),
 SV.v (V1.c (Sc.i IntKind.u32 (Z.withBit p i (bif Z.bitAt a i then Z.bitAt b i else false)))),
 SV.v (V1.c (Sc.i IntKind.i64 (IntKind.wrap IntKind.i64 (i + (1 : Int)))))],
 []))))))))
 (Tr.ret
 (X.ex (nat_lit 0),
 [SV.v (V1.c (Sc.i IntKind.i64 k)), SV.v (V1.c (Sc.i IntKind.u32 a)), SV.v (V1.c (Sc.i IntKind.u32 b)),
 SV.v (V1.c (Sc.i IntKind.u32 p)), SV.v (V1.c (Sc.i IntKind.i64 i))],
 []))

theorem rnd_lp_ref14_bits (k : Int) (a : Int) (b : Int) (p : Int) (i : Int) (W : List Rw) : rnd cx_zoetroperef14_bits 50 W (loopC 3 (codeOf Try.f36)) [0, 1, 2, 7, 8] 0 (zipE [0, 1, 2, 7, 8] [(.v (.c (.i .i64 k))), (.v (.c (.i .u32 a))), (.v (.c (.i .u32 b))), (.v (.c (.i .u32 p))), (.v (.c (.i .i64 i)))]) [] = outr_lp_ref14_bits k a b p i := by kernel_rfl
theorem lpp_lp_ref14_bits {c0 : Z.Cx} {ρ0 : List Nat} (k : Int) (a : Int) (b : Int) (p : Int) (i : Int) (W : List Rw) (hR : repR W c0.R) (hne : ρ0.length ≤ 0) {Q : Exit → Act → World → Prop} {e : Env} {H : List Bk} (hsel : canE 0 [0, 1, 2, 7, 8] e H = some ([(.v (.c (.i .i64 k))), (.v (.c (.i .u32 a))), (.v (.c (.i .u32 b))), (.v (.c (.i .u32 p))), (.v (.c (.i .i64 i)))], [])) (h : (.ass (U32 a ∧ U32 b ∧ p = 0 ∧ i = ((0 : Nat) : Int)) (.ret (.ex 0, zipE [0, 1, 2, 7, 8] [.v (.c (.i .i64 (k))), .v (.c (.i .u32 (a))), .v (.c (.i .u32 (b))), .v (.c (.i .u32 (bitsOf k a b))), .v (.c (.i .i64 (32)))], [])) : Tr (X × Env × List Bk)).all (fun y => YE c0 ρ0 Q 50 (toX y.1) y.2.1 y.2.2)) : YC Try.prog c0 ρ0 Q 50 (.loop (loopC 3 (codeOf Try.f36))) e H := by
  obtain ⟨hp, h⟩ := h
  replace h := h hp
  obtain ⟨ha, hb, rfl, rfl⟩ := hp
  rw [show (0 : Int) = Z.lowB (bitsOf k a b) 0 from (Z.lowB_zero _).symm] at hsel
  refine YC.canon hne hsel ?_
  have key := loop_sound (P := Try.prog) (c := c0) (ρ0 := ρ0) (N := 50) (Q := Q) cx_zoetroperef14_bits_ok hR (LpOK.no (by kernel_rfl)) [0, 1, 2, 7, 8] 0 hne (σ := Nat) (body := (loopC 3 (codeOf Try.f36))) (fun s => [.v (.c (.i .i64 (k))), .v (.c (.i .u32 (a))), .v (.c (.i .u32 (b))), .v (.c (.i .u32 (Z.lowB (bitsOf k a b) s))), .v (.c (.i .i64 ((s : Int))))]) (fun _ => []) (fun s => s ≤ 32) (fun s => 32 - s) (fun y => y = (.ex 0, [.v (.c (.i .i64 (k))), .v (.c (.i .u32 (a))), .v (.c (.i .u32 (b))), .v (.c (.i .u32 (bitsOf k a b))), .v (.c (.i .i64 (32)))], [])) ?round ?post 0 (by omega)
  case round =>
    intro s hI
    rw [rnd_lp_ref14_bits]
    unfold outr_lp_ref14_bits
    simp only [Tr.all]
    have hl := Z.lowB_u32 (bitsOf k a b) hI
    have hl1 := hl.1
    have hl2 := hl.2
    have hst := fun (h : s < 32) => Z.bits_step (k := k) ha hb h
    refine ⟨fun hc => ⟨⟨ha, by omega, by omega⟩, fun _ => ⟨⟨hb, by omega, by omega⟩, fun _ => ?_⟩⟩, fun hc => ?_⟩
    · repeat' (first | with_reducible apply And.intro | with_reducible intro)
      all_goals (try simp only [decide_eq_true_eq, decide_eq_false_iff_not] at *)
      all_goals first | omega | (refine Or.inl ⟨trivial, s + 1, by omega, by omega, ?_, trivial⟩; rw [← hst (by omega), Z.wI64 (by omega)]; simp_all [Z.isOf] <;> done)
    · simp only [decide_eq_false_iff_not] at hc
      refine Or.inr ⟨nofun, ?_⟩
      obtain rfl : s = 32 := by omega
      rw [Z.lowB_all (Z.bitsOf_u32 ha hb)]; rfl
  case post =>
    intro y hy hp
    subst hp
    exact h
  exact key
theorem lpc_lp_ref14_bits (c : Z.Cx) (ρ0 : List Nat) (W : List Rw) (hR : repR W c.R) (hne : ρ0.length ≤ 0) : ∀ Q e H, (lp_ref14_bits e H W).all (fun y => YE c ρ0 Q 50 (toX y.1) y.2.1 y.2.2) → YC Try.prog c ρ0 Q 50 (.loop (loopC 3 (codeOf Try.f36))) e H := by
  intro Q e H h
  unfold lp_ref14_bits at h
  (try simp only at h)
  split at h
  · rename_i heq
    exact lpp_lp_ref14_bits _ _ _ _ _ _ hR hne (by assumption) h
  · exact h.elim
noncomputable def out_zoetroperef14_bits (k : Int) (a : Int) (b : Int) : Tr (SV × List Bk) :=
Tr.ass (Z.U32 a ∧ Z.U32 b ∧ (0 : Int) = (0 : Int) ∧ (0 : Int) = (↑(0 : Nat) : Int)) (Tr.ret (SV.v (V1.c (Sc.i IntKind.u32 (Z.bitsOf k a b))), []))

theorem run_zoetroperef14_bits (k : Int) (a : Int) (b : Int) (W : List Rw) : runF cx_zoetroperef14_bits 50 [.tmp 6] (codeOf Try.f36) [(.v (.c (.i .i64 k))), (.v (.c (.i .u32 a))), (.v (.c (.i .u32 b)))] [] W = out_zoetroperef14_bits k a b := by kernel_rfl
theorem pf_zoetroperef14_bits (k : Int) (a : Int) (b : Int) (K : SV × List Bk → Prop) (h : (.ass (U32 a ∧ U32 b) (.ret (.v (.c (.i .u32 (bitsOf k a b))), [])) : Tr (SV × List Bk)).all K) : (out_zoetroperef14_bits k a b).all K := by
  obtain ⟨hp, h⟩ := h
  replace h := h hp
  replace h : K _ := h
  unfold out_zoetroperef14_bits
  simp only [Tr.all]
  exact ⟨⟨hp.1, hp.2, trivial, rfl⟩, fun _ => h⟩
noncomputable def con_zoetroperef14_bits : Con := ⟨true, fun args H W => match args, H, W with
  | [(.v (.c (.i .i64 k))), (.v (.c (.i .u32 a))), (.v (.c (.i .u32 b)))], [], _ => .ass (U32 a ∧ U32 b) (.ret (.v (.c (.i .u32 (bitsOf k a b))), []))
  | _, _, _ => .stuck 900⟩
theorem lpok_zoetroperef14_bits (c : Z.Cx) (ρ0 : List Nat) (W : List Rw) (hR : repR W c.R) (hne : ρ0.length ≤ 0) : LpOK Try.prog cx_zoetroperef14_bits c ρ0 50 W (codeOf Try.f36) := LpOK.all (ls := [((loopC 3 (codeOf Try.f36)), lp_ref14_bits)]) (by kernel_rfl) ⟨⟨(by kernel_rfl), lpc_lp_ref14_bits c ρ0 W hR hne⟩, trivial⟩
theorem ok_zoetroperef14_bits : ConOK Try.prog 36 con_zoetroperef14_bits := con_ok (code := (codeOf Try.f36)) (N := 50) (rs := [.tmp 6]) cx_zoetroperef14_bits_ok 0 Try.func36 rfl rfl rfl lpok_zoetroperef14_bits (by
  intro args H W K h hro
  unfold con_zoetroperef14_bits at h
  simp only at h
  split at h
  · refine ⟨rfl, ?_⟩
    rw [run_zoetroperef14_bits]
    exact pf_zoetroperef14_bits _ _ _ K h
  · exact h.elim)
end Go.Y
