/- PRINTED by wip/tools/ybuild.py: contracts of zoetroperef04.bare, zoetroperef04.rest. -/
import Derived.Test.YtfckbimkdjcncaaYTyA
import Derived.Test.YtfckbimkdjcncaaG6
import Derived.Test.YtfckbimkdjcncaaYA00
import Derived.Test.YtfckbimkdjcncaaYA01
import Derived.Test.YtfckbimkdjcncaaYA02
import Derived.Test.YtfckbimkdjcncaaYA03
import Derived.Test.YtfckbimkdjcncaaYA04
import Derived.Test.YtfckbimkdjcncaaYA05
import Derived.Test.YtfckbimkdjcncaaYA06
import Derived.Test.YtfckbimkdjcncaaYA07
import Derived.Test.YtfckbimkdjcncaaYA08
import Derived.Test.YtfckbimkdjcncaaYA09
import Derived.Test.YtfckbimkdjcncaaYA10
import Derived.Test.YtfckbimkdjcncaaYA11
import Derived.Test.YtfckbimkdjcncaaYA12
set_option maxRecDepth 100000
set_option linter.unusedSimpArgs false
set_option linter.unusedVariables false
namespace Go.Y
open Go.Proofs Go.X
open Go.Z (U32 Regs rg kindOf lessOf shiftOf fillOf sg bitAt withBit bnor bor band bxor b01 bitsOf)
noncomputable def cx_zoetroperef04_bare : Ctx := mkCtx tys eqs [(56, con_zoetroperef04_word)] []
theorem cx_zoetroperef04_bare_ok : CtxOK Try.prog cx_zoetroperef04_bare := mkCtx_ok _ mixed tys_ok eqs_ok ⟨⟨ok_zoetroperef04_word, Try.call56⟩, trivial⟩
noncomputable def out_zoetroperef04_bare (nm : List UInt8) (fo : List UInt8) (M : Int) (m : Int) (op : Int) (rs : Int) (rt : Int) (rd : Int) (sa : Int) (im : Int) : Tr (SV × List Bk) :=
Tr.ite (decide (fo = [(83 : UInt8), (72 : UInt8)]))
 (Tr.ass
 (((0 : Int) ≤ M ∧ M < (64 : Int)) ∧
 ((0 : Int) ≤ (0 : Int) ∧ (0 : Int) < (32 : Int)) ∧ ((0 : Int) ≤ rt ∧ rt < (32 : Int)) ∧ ((0 : Int) ≤ rd ∧ rd < (32 : Int)) ∧ ((0 : Int) ≤ sa ∧ sa < (32 : Int)) ∧ (0 : Int) ≤ m ∧ m < (64 : Int))
 (Tr.ret (SV.v (V1.c (Sc.i IntKind.u32 (M * (67108864 : Int) + (0 : Int) * (2097152 : Int) + rt * (65536 : Int) + rd * (2048 : Int) + sa * (64 : Int) + m))), [])))
 (Tr.ite (bif decide (fo = [(83 : UInt8), (86 : UInt8)]) then true else decide (fo = [(82 : UInt8)]))
 (Tr.ass
 (((0 : Int) ≤ M ∧ M < (64 : Int)) ∧
 ((0 : Int) ≤ rs ∧ rs < (32 : Int)) ∧
 ((0 : Int) ≤ rt ∧ rt < (32 : Int)) ∧ ((0 : Int) ≤ rd ∧ rd < (32 : Int)) ∧ ((0 : Int) ≤ (0 : Int) ∧ (0 : Int) < (32 : Int)) ∧ (0 : Int) ≤ m ∧ m < (64 : Int))
 (Tr.ret (SV.v (V1.c (Sc.i IntKind.u32 (M * (67108864 : Int) + rs * (2097152 : Int) + rt * (65536 : Int) + rd * (2048 : Int) + (0 : Int) * (64 : Int) + m))), [])))
 (Tr.ite (bif decide (fo = [(74 : UInt8), (82 : UInt8)]) then true else decide (fo = [(77 : UInt8), (84 : UInt8)]))
 (Tr.ass
 (((0 : Int) ≤ M ∧ M < (64 : Int)) ∧
 ((0 : Int) ≤ rs ∧ rs < (32 : Int)) ∧
 ((0 : Int) ≤ (0 : Int) ∧ (0 : Int) < (32 : Int)) ∧ ((0 : Int) ≤ (0 : Int) ∧ (0 : Int) < (32 : Int)) ∧ ((0 : Int) ≤ (0 : Int) ∧ (0 : Int) < (32 : Int)) ∧ (0 : Int) ≤ m ∧ m < (64 : Int))
 (Tr.ret
 (SV.v (V1.c (Sc.i IntKind.u32 (M * (67108864 : Int) + rs * (2097152 : Int) + (0 : Int) * (65536 : Int) + (0 : Int) * (2048 : Int) + (0 : Int) * (64 : Int) + m))), [])))
 (Tr.ite (decide (fo = [(74 : UInt8), (65 : UInt8), (76 : UInt8), (82 : UInt8)]))
 (Tr.ass
 (((0 : Int) ≤ M ∧ M < (64 : Int)) ∧
 ((0 : Int) ≤ rs ∧ rs < (32 : Int)) ∧
 ((0 : Int) ≤ (0 : Int) ∧ (0 : Int) < (32 : Int)) ∧ ((0 : Int) ≤ rd ∧ rd < (32 : Int)) ∧ ((0 : Int) ≤ (0 : Int) ∧ (0 : Int) < (32 : Int)) ∧ (0 : Int) ≤ m ∧ m < (64 : Int))
 (Tr.ret
 (SV.v (V1.c (Sc.i IntKind.u32 (M * (67108864 : Int) + rs * (2097152 : Int) + (0 : Int) * (65536 : Int) + rd * (2048 : Int) + (0 : Int) * (64 : Int) + m))), [])))
 (Tr.ite (decide (fo = [(67 : UInt8), (76 : UInt8)]))
 (Tr.ass
 (((0 : Int) ≤ M ∧ M < (64 : Int)) ∧
 ((0 : Int) ≤ rs ∧ rs < (32 : Int)) ∧
 ((0 : Int) ≤ rd ∧ rd < (32 : Int)) ∧ ((0 : Int) ≤ rd ∧ rd < (32 : Int)) ∧ ((0 : Int) ≤ (0 : Int) ∧ (0 : Int) < (32 : Int)) ∧ (0 : Int) ≤ m ∧ m < (64 : Int))
 (Tr.ret (SV.v (V1.c (Sc.i IntKind.u32 (M * (67108864 : Int) + rs * (2097152 : Int) + rd * (65536 : Int) + rd * (2048 : Int) + (0 : Int) * (64 : Int) + m))), [])))
 (Tr.ite (decide (fo = [(77 : UInt8), (70 : UInt8)]))
 (Tr.ass
 (((0 : Int) ≤ M ∧ M < (64 : Int)) ∧
 ((0 : Int) ≤ (0 : Int) ∧ (0 : Int) < (32 : Int)) ∧
 ((0 : Int) ≤ (0 : Int) ∧ (0 : Int) < (32 : Int)) ∧ ((0 : Int) ≤ rd ∧ rd < (32 : Int)) ∧ ((0 : Int) ≤ (0 : Int) ∧ (0 : Int) < (32 : Int)) ∧ (0 : Int) ≤ m ∧ m < (64 : Int))
 (Tr.ret
 (SV.v (V1.c (Sc.i IntKind.u32 (M * (67108864 : Int) + (0 : Int) * (2097152 : Int) + (0 : Int) * (65536 : Int) + rd * (2048 : Int) + (0 : Int) * (64 : Int) + m))),
 [])))
 (Tr.ite (decide (fo = [(77 : UInt8), (68 : UInt8)]))
 (Tr.ass
 (((0 : Int) ≤ M ∧ M < (64 : Int)) ∧
 ((0 : Int) ≤ rs ∧ rs < (32 : Int)) ∧
 ((0 : Int) ≤ rt ∧ rt < (32 : Int)) ∧ ((0 : Int) ≤ (0 : Int) ∧ (0 : Int) < (32 : Int)) ∧ ((0 : Int) ≤ (0 : Int) ∧ (0 : Int) < (32 : Int)) ∧ (0 : Int) ≤ m ∧ m < (64 : Int))
 (Tr.ret
 (SV.v (V1.c (Sc.i IntKind.u32 (M * (67108864 : Int) + rs * (2097152 : Int) + rt * (65536 : Int) + (0 : Int) * (2048 : Int) + (0 : Int) * (64 : Int) + m))), [])))
 (Tr.ite (decide (fo = [(67 : UInt8), (79 : UInt8)]))
 (Tr.ass
 (((0 : Int) ≤ M ∧ M < (64 : Int)) ∧
 ((0 : Int) ≤ (16 : Int) ∧ (16 : Int) < (32 : Int)) ∧
 ((0 : Int) ≤ (0 : Int) ∧ (0 : Int) < (32 : Int)) ∧
 ((0 : Int) ≤ (0 : Int) ∧ (0 : Int) < (32 : Int)) ∧ ((0 : Int) ≤ (0 : Int) ∧ (0 : Int) < (32 : Int)) ∧ (0 : Int) ≤ m ∧ m < (64 : Int))
 (Tr.ret
 (SV.v
 (V1.c
 (Sc.i IntKind.u32 (M * (67108864 : Int) + (16 : Int) * (2097152 : Int) + (0 : Int) * (65536 : Int) + (0 : Int) * (2048 : Int) + (0 : Int) * (64 : Int) + m))),
 [])))
 (Tr.ite (decide (fo = [(67 : UInt8), (48 : UInt8)]))
 (Tr.ass
 (((0 : Int) ≤ M ∧ M < (64 : Int)) ∧
 ((0 : Int) ≤ m ∧ m < (32 : Int)) ∧
 ((0 : Int) ≤ rt ∧ rt < (32 : Int)) ∧ ((0 : Int) ≤ rd ∧ rd < (32 : Int)) ∧ ((0 : Int) ≤ (0 : Int) ∧ (0 : Int) < (32 : Int)) ∧ (0 : Int) ≤ (0 : Int) ∧ (0 : Int) < (64 : Int))
 (Tr.ret
 (SV.v (V1.c (Sc.i IntKind.u32 (M * (67108864 : Int) + m * (2097152 : Int) + rt * (65536 : Int) + rd * (2048 : Int) + (0 : Int) * (64 : Int) + (0 : Int)))),
 [])))
 (Tr.ass
 (((0 : Int) ≤ M ∧ M < (64 : Int)) ∧
 ((0 : Int) ≤ (0 : Int) ∧ (0 : Int) < (32 : Int)) ∧
 ((0 : Int) ≤ (0 : Int) ∧ (0 : Int) < (32 : Int)) ∧
 ((0 : Int) ≤ (0 : Int) ∧ (0 : Int) < (32 : Int)) ∧ ((0 : Int) ≤ (0 : Int) ∧ (0 : Int) < (32 : Int)) ∧ (0 : Int) ≤ m ∧ m < (64 : Int))
 (Tr.ret
 (SV.v
 (V1.c
 (Sc.i IntKind.u32 (M * (67108864 : Int) + (0 : Int) * (2097152 : Int) + (0 : Int) * (65536 : Int) + (0 : Int) * (2048 : Int) + (0 : Int) * (64 : Int) + m))),
 [])))))))))))

theorem run_zoetroperef04_bare (nm : List UInt8) (fo : List UInt8) (M : Int) (m : Int) (op : Int) (rs : Int) (rt : Int) (rd : Int) (sa : Int) (im : Int) (W : List Rw) : runF cx_zoetroperef04_bare 97 [.tmp 4] (codeOf Try.f53) [(.v (.agg [.one (.s nm), .one (.s fo), .one (.i .i64 M), .one (.i .i64 m)])), (.v (.agg [.one (.i .i64 op), .one (.i .i64 rs), .one (.i .i64 rt), .one (.i .i64 rd), .one (.i .i64 sa), .one (.i .i64 im)]))] [] W = out_zoetroperef04_bare nm fo M m op rs rt rd sa im := by kernel_rfl
theorem pf_zoetroperef04_bare (nm : List UInt8) (fo : List UInt8) (M : Int) (m : Int) (op : Int) (rs : Int) (rt : Int) (rd : Int) (sa : Int) (im : Int) (K : SV × List Bk → Prop) (h : (.ass ((0 ≤ M ∧ M < 64) ∧ (0 ≤ m ∧ m < 64) ∧ (fo = [67, 48] → m < 32) ∧ (0 ≤ rs ∧ rs < 32) ∧ (0 ≤ rt ∧ rt < 32) ∧ (0 ≤ rd ∧ rd < 32) ∧ (0 ≤ sa ∧ sa < 32)) (.ret (.v (.c (.i .u32 (bareW fo M m rs rt rd sa))), [])) : Tr (SV × List Bk)).all K) : (out_zoetroperef04_bare nm fo M m op rs rt rd sa im).all K := by
  obtain ⟨hp, h⟩ := h
  replace h := h hp
  replace h : K _ := h
  replace h : K _ := h
  obtain ⟨hM, hm, hc, h1, h2, h3, h4⟩ := hp
  unfold out_zoetroperef04_bare
  simp only [Tr.all]
  repeat' (first | with_reducible apply And.intro | with_reducible intro)
  all_goals (try simp only [Bool.cond_true_left, Bool.or_eq_true, Bool.or_eq_false_iff, decide_eq_true_eq, decide_eq_false_iff_not] at *)
  all_goals first
    | omega
    | (have := hc (by assumption); omega)
    | (refine leafI h ?_; unfold bareW; simp_all <;> omega)
noncomputable def con_zoetroperef04_bare : Con := ⟨true, fun args H W => match args, H, W with
  | [(.v (.agg [.one (.s nm), .one (.s fo), .one (.i .i64 M), .one (.i .i64 m)])), (.v (.agg [.one (.i .i64 op), .one (.i .i64 rs), .one (.i .i64 rt), .one (.i .i64 rd), .one (.i .i64 sa), .one (.i .i64 im)]))], [], _ => .ass ((0 ≤ M ∧ M < 64) ∧ (0 ≤ m ∧ m < 64) ∧ (fo = [67, 48] → m < 32) ∧ (0 ≤ rs ∧ rs < 32) ∧ (0 ≤ rt ∧ rt < 32) ∧ (0 ≤ rd ∧ rd < 32) ∧ (0 ≤ sa ∧ sa < 32)) (.ret (.v (.c (.i .u32 (bareW fo M m rs rt rd sa))), []))
  | _, _, _ => .stuck 900⟩
theorem ok_zoetroperef04_bare : ConOK Try.prog 53 con_zoetroperef04_bare := con_ok (code := (codeOf Try.f53)) (N := 97) (rs := [.tmp 4]) cx_zoetroperef04_bare_ok 0 Try.func53 rfl rfl rfl (fun _ _ _ _ _ => LpOK.no (by kernel_rfl)) (by
  intro args H W K h hro
  unfold con_zoetroperef04_bare at h
  simp only at h
  split at h
  · refine ⟨rfl, ?_⟩
    rw [run_zoetroperef04_bare]
    exact pf_zoetroperef04_bare _ _ _ _ _ _ _ _ _ _ K h
  · exact h.elim)
noncomputable def cx_zoetroperef04_rest : Ctx := mkCtx tys eqs [] []
theorem cx_zoetroperef04_rest_ok : CtxOK Try.prog cx_zoetroperef04_rest := mkCtx_ok _ mixed tys_ok eqs_ok trivial
noncomputable def out_zoetroperef04_rest (nm : List UInt8) (fo : List UInt8) (M : Int) (m : Int) (op : Int) (rs : Int) (rt : Int) (rd : Int) (sa : Int) (im : Int) : Tr (SV × List Bk) :=
Tr.ite
 (bif
 bif
 bif
 bif
 bif bif decide (fo = [(83 : UInt8), (86 : UInt8)]) then true else decide (fo = [(82 : UInt8)]) then true
 else decide (fo = [(74 : UInt8), (82 : UInt8)]) then
 true
 else decide (fo = [(77 : UInt8), (84 : UInt8)]) then
 true
 else decide (fo = [(74 : UInt8), (65 : UInt8), (76 : UInt8), (82 : UInt8)]) then
 true
 else decide (fo = [(67 : UInt8), (76 : UInt8)]) then
 true
 else decide (fo = [(77 : UInt8), (68 : UInt8)]))
 (Tr.ite
 (bif
 bif
 bif bif decide (fo = [(83 : UInt8), (72 : UInt8)]) then true else decide (fo = [(83 : UInt8), (86 : UInt8)]) then true
 else decide (fo = [(82 : UInt8)]) then
 true
 else decide (fo = [(77 : UInt8), (68 : UInt8)]) then
 true
 else decide (fo = [(67 : UInt8), (48 : UInt8)]))
 (Tr.ite
 (bif
 bif
 bif
 bif
 bif bif decide (fo = [(83 : UInt8), (72 : UInt8)]) then true else decide (fo = [(83 : UInt8), (86 : UInt8)]) then true
 else decide (fo = [(82 : UInt8)]) then
 true
 else decide (fo = [(74 : UInt8), (65 : UInt8), (76 : UInt8), (82 : UInt8)]) then
 true
 else decide (fo = [(67 : UInt8), (76 : UInt8)]) then
 true
 else decide (fo = [(77 : UInt8), (70 : UInt8)]) then
 true
 else decide (fo = [(67 : UInt8), (48 : UInt8)]))
 (Tr.ite (decide (fo = [(83 : UInt8), (72 : UInt8)]))
 (Tr.ret
 (SV.v
 (V1.agg
 [Seg.one (Sc.i IntKind.i64 (0 : Int)), Seg.one (Sc.i IntKind.i64 (0 : Int)), Seg.one (Sc.i IntKind.i64 (0 : Int)),
 Seg.one (Sc.i IntKind.i64 (0 : Int)), Seg.one (Sc.i IntKind.i64 (0 : Int)), Seg.one (Sc.i IntKind.i64 im)]),
 []))
 (Tr.ret
 (SV.v
 (V1.agg
 [Seg.one (Sc.i IntKind.i64 (0 : Int)), Seg.one (Sc.i IntKind.i64 (0 : Int)), Seg.one (Sc.i IntKind.i64 (0 : Int)),
 Seg.one (Sc.i IntKind.i64 (0 : Int)), Seg.one (Sc.i IntKind.i64 sa), Seg.one (Sc.i IntKind.i64 im)]),
 [])))
 (Tr.ite (decide (fo = [(83 : UInt8), (72 : UInt8)]))
 (Tr.ret
 (SV.v
 (V1.agg
 [Seg.one (Sc.i IntKind.i64 (0 : Int)), Seg.one (Sc.i IntKind.i64 (0 : Int)), Seg.one (Sc.i IntKind.i64 (0 : Int)),
 Seg.one (Sc.i IntKind.i64 rd), Seg.one (Sc.i IntKind.i64 (0 : Int)), Seg.one (Sc.i IntKind.i64 im)]),
 []))
 (Tr.ret
 (SV.v
 (V1.agg
 [Seg.one (Sc.i IntKind.i64 (0 : Int)), Seg.one (Sc.i IntKind.i64 (0 : Int)), Seg.one (Sc.i IntKind.i64 (0 : Int)),
 Seg.one (Sc.i IntKind.i64 rd), Seg.one (Sc.i IntKind.i64 sa), Seg.one (Sc.i IntKind.i64 im)]),
 []))))
 (Tr.ite
 (bif
 bif
 bif
 bif
 bif bif decide (fo = [(83 : UInt8), (72 : UInt8)]) then true else decide (fo = [(83 : UInt8), (86 : UInt8)]) then true
 else decide (fo = [(82 : UInt8)]) then
 true
 else decide (fo = [(74 : UInt8), (65 : UInt8), (76 : UInt8), (82 : UInt8)]) then
 true
 else decide (fo = [(67 : UInt8), (76 : UInt8)]) then
 true
 else decide (fo = [(77 : UInt8), (70 : UInt8)]) then
 true
 else decide (fo = [(67 : UInt8), (48 : UInt8)]))
 (Tr.ite (decide (fo = [(83 : UInt8), (72 : UInt8)]))
 (Tr.ret
 (SV.v
 (V1.agg
 [Seg.one (Sc.i IntKind.i64 (0 : Int)), Seg.one (Sc.i IntKind.i64 (0 : Int)), Seg.one (Sc.i IntKind.i64 rt),
 Seg.one (Sc.i IntKind.i64 (0 : Int)), Seg.one (Sc.i IntKind.i64 (0 : Int)), Seg.one (Sc.i IntKind.i64 im)]),
 []))
 (Tr.ret
 (SV.v
 (V1.agg
 [Seg.one (Sc.i IntKind.i64 (0 : Int)), Seg.one (Sc.i IntKind.i64 (0 : Int)), Seg.one (Sc.i IntKind.i64 rt),
 Seg.one (Sc.i IntKind.i64 (0 : Int)), Seg.one (Sc.i IntKind.i64 sa), Seg.one (Sc.i IntKind.i64 im)]),
 [])))
 (Tr.ite (decide (fo = [(83 : UInt8), (72 : UInt8)]))
 (Tr.ret
 (SV.v
 (V1.agg
 [Seg.one (Sc.i IntKind.i64 (0 : Int)), Seg.one (Sc.i IntKind.i64 (0 : Int)), Seg.one (Sc.i IntKind.i64 rt),
 Seg.one (Sc.i IntKind.i64 rd), Seg.one (Sc.i IntKind.i64 (0 : Int)), Seg.one (Sc.i IntKind.i64 im)]),
 []))
 (Tr.ret
 (SV.v
 (V1.agg
 [Seg.one (Sc.i IntKind.i64 (0 : Int)), Seg.one (Sc.i IntKind.i64 (0 : Int)), Seg.one (Sc.i IntKind.i64 rt),
 Seg.one (Sc.i IntKind.i64 rd), Seg.one (Sc.i IntKind.i64 sa), Seg.one (Sc.i IntKind.i64 im)]),
 [])))))
 (Tr.ite
 (bif
 bif
 bif bif decide (fo = [(83 : UInt8), (72 : UInt8)]) then true else decide (fo = [(83 : UInt8), (86 : UInt8)]) then true
 else decide (fo = [(82 : UInt8)]) then
 true
 else decide (fo = [(77 : UInt8), (68 : UInt8)]) then
 true
 else decide (fo = [(67 : UInt8), (48 : UInt8)]))
 (Tr.ite
 (bif
 bif
 bif
 bif
 bif bif decide (fo = [(83 : UInt8), (72 : UInt8)]) then true else decide (fo = [(83 : UInt8), (86 : UInt8)]) then true
 else decide (fo = [(82 : UInt8)]) then
 true
 else decide (fo = [(74 : UInt8), (65 : UInt8), (76 : UInt8), (82 : UInt8)]) then
 true
 else decide (fo = [(67 : UInt8), (76 : UInt8)]) then
 true
 else decide (fo = [(77 : UInt8), (70 : UInt8)]) then
 true
 else decide (fo = [(67 : UInt8), (48 : UInt8)]))
 (Tr.ite (decide (fo = [(83 : UInt8), (72 : UInt8)]))
 (Tr.ret
 (SV.v
 (V1.agg
 [Seg.one (Sc.i IntKind.i64 (0 : Int)), Seg.one (Sc.i IntKind.i64 rs), Seg.one (Sc.i IntKind.i64 (0 : Int)),
 Seg.one (Sc.i IntKind.i64 (0 : Int)), Seg.one (Sc.i IntKind.i64 (0 : Int)), Seg.one (Sc.i IntKind.i64 im)]),
 []))
 (Tr.ret
 (SV.v
 (V1.agg
 [Seg.one (Sc.i IntKind.i64 (0 : Int)), Seg.one (Sc.i IntKind.i64 rs), Seg.one (Sc.i IntKind.i64 (0 : Int)),
 Seg.one (Sc.i IntKind.i64 (0 : Int)), Seg.one (Sc.i IntKind.i64 sa), Seg.one (Sc.i IntKind.i64 im)]),
 [])))
 (Tr.ite (decide (fo = [(83 : UInt8), (72 : UInt8)]))
 (Tr.ret
 (SV.v
 (V1.agg
 [Seg.one (Sc.i IntKind.i64 (0 : Int)), Seg.one (Sc.i IntKind.i64 rs), Seg.one (Sc.i IntKind.i64 (0 : Int)),
 Seg.one (Sc.i IntKind.i64 rd), Seg.one (Sc.i IntKind.i64 (0 : Int)), Seg.one (Sc.i IntKind.i64 im)]),
 []))
 (Tr.ret
 (SV.v
 (V1.agg
 [Seg.one (Sc.i IntKind.i64 (0 : Int)), Seg.one (Sc.i IntKind.i64 rs), Seg.one (Sc.i IntKind.i64 (0 : Int)),
 Seg.one (Sc.i IntKind.i64 rd), Seg.one (Sc.i IntKind.i64 sa), Seg.one (Sc.i IntKind.i64 im)]),
 []))))
 (Tr.ite
 (bif
 bif
 bif
 bif
 bif bif decide (fo = [(83 : UInt8), (72 : UInt8)]) then true else decide (fo = [(83 : UInt8), (86 : UInt8)]) then true
 else decide (fo = [(82 : UInt8)]) then
 true
 else decide (fo = [(74 : UInt8), (65 : UInt8), (76 : UInt8), (82 : UInt8)]) then
 true
 else decide (fo = [(67 : UInt8), (76 : UInt8)]) then
 true
 else decide (fo = [(77 : UInt8), (70 : UInt8)]) then
 true
 else decide (fo = [(67 : UInt8), (48 : UInt8)]))
 (Tr.ite (decide (fo = [(83 : UInt8), (72 : UInt8)]))
 (Tr.ret
 (SV.v
 (V1.agg
 [Seg.one (Sc.i IntKind.i64 (0 : Int)), Seg.one (Sc.i IntKind.i64 rs), Seg.one (Sc.i IntKind.i64 rt),
 Seg.one (Sc.i IntKind.i64 (0 : Int)), Seg.one (Sc.i IntKind.i64 (0 : Int)), Seg.one (Sc.i IntKind.i64 im)]),
 []))
 (Tr.ret
 (SV.v
 (V1.agg
 [Seg.one (Sc.i IntKind.i64 (0 : Int)), Seg.one (Sc.i IntKind.i64 rs), Seg.one (Sc.i IntKind.i64 rt),
 Seg.one (Sc.i IntKind.i64 (0 : Int)), Seg.one (Sc.i IntKind.i64 sa), Seg.one (Sc.i IntKind.i64 im)]),
 [])))
 (Tr.ite (decide (fo = [(83 : UInt8), (72 : UInt8)]))
 (Tr.ret
 (SV.v
 (V1.agg
 [Seg.one (Sc.i IntKind.i64 (0 : Int)), Seg.one (Sc.i IntKind.i64 rs), Seg.one (Sc.i IntKind.i64 rt), Seg.one (Sc.i IntKind.i64 rd),
 Seg.one (Sc.i IntKind.i64 (0 : Int)), Seg.one (Sc.i IntKind.i64 im)]),
 []))
 (Tr.ret
 (SV.v
 (V1.agg
 [Seg.one (Sc.i IntKind.i64 (0 : Int)), Seg.one (Sc.i IntKind.i64 rs), Seg.one (Sc.i IntKind.i64 rt), Seg.one (Sc.i IntKind.i64 rd),
 Seg.one (Sc.i IntKind.i64 sa), Seg.one (Sc.i IntKind.i64 im)]),
 [])))))

theorem run_zoetroperef04_rest (nm : List UInt8) (fo : List UInt8) (M : Int) (m : Int) (op : Int) (rs : Int) (rt : Int) (rd : Int) (sa : Int) (im : Int) (W : List Rw) : runF cx_zoetroperef04_rest 86 [.cell 4 42] (codeOf Try.f54) [(.v (.agg [.one (.s nm), .one (.s fo), .one (.i .i64 M), .one (.i .i64 m)])), (.v (.agg [.one (.i .i64 op), .one (.i .i64 rs), .one (.i .i64 rt), .one (.i .i64 rd), .one (.i .i64 sa), .one (.i .i64 im)]))] [] W = out_zoetroperef04_rest nm fo M m op rs rt rd sa im := by kernel_rfl
theorem pf_zoetroperef04_rest (nm : List UInt8) (fo : List UInt8) (M : Int) (m : Int) (op : Int) (rs : Int) (rt : Int) (rd : Int) (sa : Int) (im : Int) (K : SV × List Bk → Prop) (h : (.ret (.v (.agg [.one (.i .i64 (restV fo ⟨op, rs, rt, rd, sa, im⟩).op), .one (.i .i64 (restV fo ⟨op, rs, rt, rd, sa, im⟩).rs), .one (.i .i64 (restV fo ⟨op, rs, rt, rd, sa, im⟩).rt), .one (.i .i64 (restV fo ⟨op, rs, rt, rd, sa, im⟩).rd), .one (.i .i64 (restV fo ⟨op, rs, rt, rd, sa, im⟩).sa), .one (.i .i64 (restV fo ⟨op, rs, rt, rd, sa, im⟩).imm)]), []) : Tr (SV × List Bk)).all K) : (out_zoetroperef04_rest nm fo M m op rs rt rd sa im).all K := by
  replace h : K _ := h
  unfold out_zoetroperef04_rest
  simp only [Tr.all]
  repeat' (first | with_reducible apply And.intro | with_reducible intro)
  all_goals (simp only [Bool.cond_true_left, Bool.or_eq_true, Bool.or_eq_false_iff, decide_eq_true_eq, decide_eq_false_iff_not] at *)
  all_goals (refine leafE h ?_; unfold restV; simp_all <;> grind)
noncomputable def con_zoetroperef04_rest : Con := ⟨true, fun args H W => match args, H, W with
  | [(.v (.agg [.one (.s nm), .one (.s fo), .one (.i .i64 M), .one (.i .i64 m)])), (.v (.agg [.one (.i .i64 op), .one (.i .i64 rs), .one (.i .i64 rt), .one (.i .i64 rd), .one (.i .i64 sa), .one (.i .i64 im)]))], [], _ => .ret (.v (.agg [.one (.i .i64 (restV fo ⟨op, rs, rt, rd, sa, im⟩).op), .one (.i .i64 (restV fo ⟨op, rs, rt, rd, sa, im⟩).rs), .one (.i .i64 (restV fo ⟨op, rs, rt, rd, sa, im⟩).rt), .one (.i .i64 (restV fo ⟨op, rs, rt, rd, sa, im⟩).rd), .one (.i .i64 (restV fo ⟨op, rs, rt, rd, sa, im⟩).sa), .one (.i .i64 (restV fo ⟨op, rs, rt, rd, sa, im⟩).imm)]), [])
  | _, _, _ => .stuck 900⟩
theorem ok_zoetroperef04_rest : ConOK Try.prog 54 con_zoetroperef04_rest := con_ok (code := (codeOf Try.f54)) (N := 86) (rs := [.cell 4 42]) cx_zoetroperef04_rest_ok 0 Try.func54 rfl rfl rfl (fun _ _ _ _ _ => LpOK.no (by kernel_rfl)) (by
  intro args H W K h hro
  unfold con_zoetroperef04_rest at h
  simp only at h
  split at h
  · refine ⟨rfl, ?_⟩
    rw [run_zoetroperef04_rest]
    exact pf_zoetroperef04_rest _ _ _ _ _ _ _ _ _ _ K h
  · exact h.elim)
end Go.Y
