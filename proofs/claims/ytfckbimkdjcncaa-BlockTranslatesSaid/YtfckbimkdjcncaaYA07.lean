/- PRINTED by wip/tools/ybuild.py: contracts of decode.Decode, ir.one. -/
import Derived.Test.YtfckbimkdjcncaaYTyA
import Derived.Test.YtfckbimkdjcncaaG6
import Derived.Test.YtfckbimkdjcncaaYA00
import Derived.Test.YtfckbimkdjcncaaYA01
import Derived.Test.YtfckbimkdjcncaaYA02
import Derived.Test.YtfckbimkdjcncaaYA03
import Derived.Test.YtfckbimkdjcncaaYA04
import Derived.Test.YtfckbimkdjcncaaYA05
import Derived.Test.YtfckbimkdjcncaaYA06
set_option maxRecDepth 100000
set_option linter.unusedSimpArgs false
set_option linter.unusedVariables false
namespace Go.Y
open Go.Proofs Go.X
open Go.Z (U32 Regs rg kindOf lessOf shiftOf fillOf sg bitAt withBit bnor bor band bxor b01 bitsOf)
noncomputable def lp_Decode : LpT := fun e H W => match canE 0 [0, 2, 3, 7, 8] e H, W with
  | some ([(.v (.c (.i .u32 w))), (.v (.c (.p 0 0))), (.v (.c (.i .i64 z))), (.v (.agg [.arr 8 69 T])), (.v (.c (.i .i64 i)))], [⟨42, [.one (.i .i64 a), .one (.i .i64 b), .one (.i .i64 c), .one (.i .i64 d), .one (.i .i64 x), .one (.i .i64 f)], true⟩]), W => .ass ((T = tabT ∧ z = 0 ∧ i = ((0 : Nat) : Int)) ∧ U32 w) (.ite (decB w) (.ret (.ret, [(2, .v (.c (.p 0 0))), (3, .v (.c (.i .i64 (0))))], [⟨42, [.one (.i .i64 (decI w).op), .one (.i .i64 (decI w).rs), .one (.i .i64 (decI w).rt), .one (.i .i64 (decI w).rd), .one (.i .i64 (decI w).sa), .one (.i .i64 (decI w).imm)], true⟩])) (.ret (.ex 0, [(2, .v (.c (.p 0 0)))], [⟨42, [.one (.i .i64 a), .one (.i .i64 b), .one (.i .i64 c), .one (.i .i64 d), .one (.i .i64 x), .one (.i .i64 f)], true⟩])))
  | _, _ => .stuck 901
noncomputable def cx_decode_Decode : Ctx := mkCtx tys eqs [(41, con_decode_rows), (42, con_decode_take), (43, con_decode_lay), (44, con_zoetrope_decode_fields_word)] [(2, lp_Decode)]
theorem cx_decode_Decode_ok : CtxOK Try.prog cx_decode_Decode := mkCtx_ok _ mixed tys_ok eqs_ok ⟨⟨ok_decode_rows, Try.call41⟩, ⟨⟨ok_decode_take, Try.call42⟩, ⟨⟨ok_decode_lay, Try.call43⟩, ⟨⟨ok_zoetrope_decode_fields_word, Try.call44⟩, trivial⟩⟩⟩⟩
noncomputable def outr_lp_Decode (w : Int) (z : Int) (T : List (Sh 8)) (i : Int) (a : Int) (b : Int) (c : Int) (d : Int) (x : Int) (f : Int) : Tr (X × List SV × List Bk) :=
Tr.ite (decide (i < (69 : Int)))
 (Tr.ass ((0 : Int) ≤ i ∧ i < (↑(69 : Nat) : Int))
 (Tr.ass ((0 : Int) ≤ (26 : Int))
 (Tr.ite (!decide ((List.getD T (Int.toNat i) (Sh.df (8 : Nat))).3 = Int.fdiv w ((2 : Int) ^ Min.min (Int.toNat (26 : Int)) (IntKind.bits IntKind.u32))))
 (Tr.ret
 (X.nor,
 [SV.v (V1.c (Sc.i IntKind.u32 w)), SV.v (V1.c (Sc.p (nat_lit 0) (nat_lit 0))), SV.v (V1.c (Sc.i IntKind.i64 z)),
 SV.v (V1.agg [Seg.arr (nat_lit 8) (nat_lit 69) T]), SV.v (V1.c (Sc.i IntKind.i64 (IntKind.wrap IntKind.i64 (i + (1 : Int)))))],
 [Bk.mk (nat_lit 42)
 [Seg.one (Sc.i IntKind.i64 a), Seg.one (Sc.i IntKind.i64 b), Seg.one (Sc.i IntKind.i64 c), Seg.one (Sc.i IntKind.i64 d),
 Seg.one (Sc.i IntKind.i64 x), Seg.one (Sc.i IntKind.i64 f)]
 true]))
 (Tr.ass (Z.U32 w)
 (Tr.ass
 (Z.Lay.ok
 (Z.layOf (List.getD T (Int.toNat i) (Sh.df (8 : Nat))).2 (List.getD T (Int.toNat i) (Sh.df (8 : Nat))).4
 (Z.takeOf (List.getD T (Int.toNat i) (Sh.df (8 : Nat))).2 i w)) ∧
 (0 : Int) ≤ (List.getD T (Int.toNat i) (Sh.df (8 : Nat))).3 ∧ (List.getD T (Int.toNat i) (Sh.df (8 : Nat))).3 < (64 : Int))
 (Tr.ite
 (decide
 (Z.Lay.word
 (Z.layOf (List.getD T (Int.toNat i) (Sh.df (8 : Nat))).2 (List.getD T (Int.toNat i) (Sh.df (8 : Nat))).4
 (Z.takeOf (List.getD T (Int.toNat i) (Sh.df (8 : Nat))).2 i w))
 (List.getD T (Int.toNat i) (Sh.df (8 : Nat))).3 =
 w))
 (Tr.ret
 (X.ret,
 [SV.v (V1.c (Sc.i IntKind.u32 w)), SV.v (V1.c (Sc.p (nat_lit 0) (nat_lit 0))), SV.v (V1.c (Sc.i IntKind.i64 (0 : Int))),
 SV.v (V1.agg [Seg.arr (nat_lit 8) (nat_lit 69) T]), SV.v (V1.c (Sc.i IntKind.i64 i))],
 [Bk.mk (nat_lit 42)
 [Seg.one (Sc.i IntKind.i64 (Z.Ins.op (Z.takeOf (List.getD T (Int.toNat i) (Sh.df (8 : Nat))).2 i w))),
 Seg.one (Sc.i IntKind.i64 (Z.Ins.rs (Z.takeOf (List.getD T (Int.toNat i) (Sh.df (8 : Nat))).2 i w))),
 Seg.one (Sc.i IntKind.i64 (Z.Ins.rt (Z.takeOf (List.getD T (Int.toNat i) (Sh.df (8 : Nat))).2 i w))),
 Seg.one (Sc.i IntKind.i64 (Z.Ins.rd (Z.takeOf (List.getD T (Int.toNat i) (Sh.df (8 : Nat))).2 i w))),
 Seg.one (Sc.i IntKind.i64 (Z.Ins.sa (Z.takeOf (List.getD T (Int.toNat i) (Sh.df (8 : Nat))).2 i w))),
 Seg.one (Sc.i IntKind.i64 (Z.Ins.imm (Z.takeOf (List.getD T (Int.toNat i) (Sh.df (8 : Nat))).2 i w)))]
 true]))
 (Tr.ret
 (X.nor,
 [SV.v (V1.c (Sc.i IntKind.u32 w)), SV.v (V1.c (Sc.p (nat_lit 0) (nat_lit 0))), SV.v (V1.c (Sc.i IntKind.i64 z)),
 SV.v (V1.agg [Seg.arr (nat_lit 8) (nat_lit 69) T]), SV.v (V1.c (Sc.i IntKind.i64 (IntKind.wrap IntKind.i64 (i + (1 : Int)))))],
 [Bk.mk (nat_lit 42)
 [Seg.one (Sc.i IntKind.i64 a), Seg.one (Sc.i IntKind.i64 b), Seg.one (Sc.i IntKind.i64 c), Seg.one (Sc.i IntKind.i64 d),
 Seg.one (Sc.i IntKind.i64 x), Seg.one (Sc.i IntKind.i64 f)]
 true]))))))))
 (Tr.ret
 (X.ex (nat_lit 0),
 [SV.v (V1.c (Sc.i IntKind.u32 w)), SV.v (V1.c (Sc.p (nat_lit 0) (nat_lit 0))), SV.v (V1.c (Sc.i IntKind.i64 z)),
 SV.v (V1.agg [Seg.arr (nat_lit 8) (nat_lit 69) T]), SV.v (V1.c (Sc.i IntKind.i64 i))],
 [Bk.mk (nat_lit 42)
 [Seg.one (Sc.i IntKind.i64 a), Seg.one (Sc.i IntKind.i64 b), Seg.one (Sc.i IntKind.i64 c), Seg.one (Sc.i IntKind.i64 d),
 Seg.one (Sc.i IntKind.i64 x), Seg.one (Sc.i IntKind.i64 f)]
 true]))

theorem rnd_lp_Decode (w : Int) (z : Int) (T : List (Sh 8)) (i : Int) (a : Int) (b : Int) (c : Int) (d : Int) (x : Int) (f : Int) (W : List Rw) : rnd cx_decode_Decode 32 W (loopC 2 (codeOf Try.f24)) [0, 2, 3, 7, 8] 0 (zipE [0, 2, 3, 7, 8] [(.v (.c (.i .u32 w))), (.v (.c (.p 0 0))), (.v (.c (.i .i64 z))), (.v (.agg [.arr 8 69 T])), (.v (.c (.i .i64 i)))]) [⟨42, [.one (.i .i64 a), .one (.i .i64 b), .one (.i .i64 c), .one (.i .i64 d), .one (.i .i64 x), .one (.i .i64 f)], true⟩] = outr_lp_Decode w z T i a b c d x f := by kernel_rfl
theorem lpp_lp_Decode {c0 : Z.Cx} {ρ0 : List Nat} (w : Int) (z : Int) (T : List (Sh 8)) (i : Int) (a : Int) (b : Int) (c : Int) (d : Int) (x : Int) (f : Int) (W : List Rw) (hR : repR W c0.R) (hne : ρ0.length ≤ 0) {Q : Exit → Act → World → Prop} {e : Env} {H : List Bk} (hsel : canE 0 [0, 2, 3, 7, 8] e H = some ([(.v (.c (.i .u32 w))), (.v (.c (.p 0 0))), (.v (.c (.i .i64 z))), (.v (.agg [.arr 8 69 T])), (.v (.c (.i .i64 i)))], [⟨42, [.one (.i .i64 a), .one (.i .i64 b), .one (.i .i64 c), .one (.i .i64 d), .one (.i .i64 x), .one (.i .i64 f)], true⟩])) (h : (.ass ((T = tabT ∧ z = 0 ∧ i = ((0 : Nat) : Int)) ∧ U32 w) (.ite (decB w) (.ret (.ret, [(2, .v (.c (.p 0 0))), (3, .v (.c (.i .i64 (0))))], [⟨42, [.one (.i .i64 (decI w).op), .one (.i .i64 (decI w).rs), .one (.i .i64 (decI w).rt), .one (.i .i64 (decI w).rd), .one (.i .i64 (decI w).sa), .one (.i .i64 (decI w).imm)], true⟩])) (.ret (.ex 0, [(2, .v (.c (.p 0 0)))], [⟨42, [.one (.i .i64 a), .one (.i .i64 b), .one (.i .i64 c), .one (.i .i64 d), .one (.i .i64 x), .one (.i .i64 f)], true⟩]))) : Tr (X × Env × List Bk)).all (fun y => YE c0 ρ0 Q 32 (toX y.1) y.2.1 y.2.2)) : YC Try.prog c0 ρ0 Q 32 (.loop (loopC 2 (codeOf Try.f24))) e H := by
  obtain ⟨hp, h⟩ := h
  replace h := h hp
  obtain ⟨⟨rfl, rfl, rfl⟩, hw⟩ := hp
  refine YC.canon hne hsel ?_
  have key := loop_sound (P := Try.prog) (c := c0) (ρ0 := ρ0) (N := 32) (Q := Q) cx_decode_Decode_ok hR (LpOK.no (by kernel_rfl)) [0, 2, 3, 7, 8] 0 hne (σ := Nat) (body := (loopC 2 (codeOf Try.f24))) (fun s => [.v (.c (.i .u32 (w))), .v (.c (.p 0 0)), .v (.c (.i .i64 (0))), .v (.agg [.arr 8 69 tabT]), .v (.c (.i .i64 ((s : Int))))]) (fun _ => [⟨42, [.one (.i .i64 a), .one (.i .i64 b), .one (.i .i64 c), .one (.i .i64 d), .one (.i .i64 x), .one (.i .i64 f)], true⟩]) (fun s => s ≤ 69 ∧ ∀ j, j < s → Z.hit w j = false) (fun s => 69 - s) (fun y => (decB w = true ∧ ∃ u, y = (.ret, [.v (.c (.i .u32 (w))), .v (.c (.p 0 0)), .v (.c (.i .i64 (0))), .v (.agg [.arr 8 69 tabT]), .v (.c (.i .i64 (u)))], [⟨42, [.one (.i .i64 (decI w).op), .one (.i .i64 (decI w).rs), .one (.i .i64 (decI w).rt), .one (.i .i64 (decI w).rd), .one (.i .i64 (decI w).sa), .one (.i .i64 (decI w).imm)], true⟩])) ∨ (decB w = false ∧ ∃ u, y = (.ex 0, [.v (.c (.i .u32 (w))), .v (.c (.p 0 0)), .v (.c (.i .i64 (0))), .v (.agg [.arr 8 69 tabT]), .v (.c (.i .i64 (u)))], [⟨42, [.one (.i .i64 a), .one (.i .i64 b), .one (.i .i64 c), .one (.i .i64 d), .one (.i .i64 x), .one (.i .i64 f)], true⟩]))) ?round ?post 0 ⟨by omega, fun j hj => by omega⟩
  case round =>
    intro s hI
    rw [rnd_lp_Decode]
    unfold outr_lp_Decode
    simp only [Tr.all]
    obtain ⟨hI1, hI2⟩ := hI
    have hs26 : w.fdiv (2 ^ min (Int.toNat 26) IntKind.u32.bits) = w / 67108864 := Z.shr_any (by decide)
    rw [show ((s : Nat) : Int).toNat = s by omega]
    refine ⟨fun hc => ?_, fun hc => Or.inr ⟨nofun, Or.inr ⟨?_, _, rfl⟩⟩⟩
    · have hc := of_decide_eq_true hc
      have hks : s < Z.tab.length := by rw [Z.tab_len]; omega
      have hrow := Z.row_ok hks
      rw [tabT_get hks, hs26, Z.wI64 (z := (s : Int) + 1) (by omega)]
      dsimp only
      refine ⟨by omega, fun _ => ⟨by decide, fun _ => ⟨fun h1 => Or.inl ⟨trivial, s + 1, ⟨by omega, Z.miss_step hI2 (Z.hit_no1 (w := w) hks (by simpa using h1))⟩, by omega, rfl, trivial⟩, fun h1 => ?_⟩⟩⟩
      have hM : Z.tab[s].M = w / 67108864 := by simpa using h1
      have hfs : (Z.layOf Z.tab[s].f Z.tab[s].m (Z.takeOf Z.tab[s].f s w)).word Z.tab[s].M = w → Z.decOf w = some s := fun h2 => Z.find_first (p := Z.hit w) (by omega) (by rw [Z.hit_of hks, decide_eq_true hM, decide_eq_true h2]; rfl) hI2
      refine ⟨hw, fun _ => ⟨⟨Z.layOf_ok hrow.2.2.1 hrow.2.2.2, hrow.2.1⟩, fun _ => ⟨fun h2 => Or.inr ⟨nofun, Or.inl ⟨?_, (s : Int), ?_⟩⟩, fun h2 => Or.inl ⟨trivial, s + 1, ⟨by omega, Z.miss_step hI2 (Z.hit_no2 (w := w) hks ?_)⟩, by omega, rfl, trivial⟩⟩⟩⟩
      · rw [decB, hfs (of_decide_eq_true h2)]; rfl
      · have hI : decI w = Z.takeOf Z.tab[s].f s w := by
          rw [decI, hfs (of_decide_eq_true h2)]
          simp [Z.insOf, List.getElem?_eq_getElem hks]
        rw [hI]
      · exact of_decide_eq_false h2
    · have hc := of_decide_eq_false hc
      obtain rfl : s = 69 := by omega
      rw [decB, Z.decOf, Z.find_none (p := Z.hit w) hI2]
      rfl
  case post =>
    intro y hy hp
    rcases hp with ⟨hf, u, rfl⟩ | ⟨hf, u, rfl⟩
    · exact YE.weaken (Sub.cons rfl (Sub.cons rfl Sub.nil)) (h.1 hf)
    · exact YE.weaken (Sub.cons rfl Sub.nil) (h.2 hf)
  exact key
theorem lpc_lp_Decode (c : Z.Cx) (ρ0 : List Nat) (W : List Rw) (hR : repR W c.R) (hne : ρ0.length ≤ 0) : ∀ Q e H, (lp_Decode e H W).all (fun y => YE c ρ0 Q 32 (toX y.1) y.2.1 y.2.2) → YC Try.prog c ρ0 Q 32 (.loop (loopC 2 (codeOf Try.f24))) e H := by
  intro Q e H h
  unfold lp_Decode at h
  (try simp only at h)
  split at h
  · rename_i heq
    exact lpp_lp_Decode _ _ _ _ _ _ _ _ _ _ _ hR hne (by assumption) h
  · exact h.elim
noncomputable def out_decode_Decode (w : Int) : Tr (SV × List Bk) :=
Tr.ass ((X.tabT = X.tabT ∧ (0 : Int) = (0 : Int) ∧ (0 : Int) = (↑(0 : Nat) : Int)) ∧ Z.U32 w)
 (Tr.ite (X.decB w)
 (Tr.ret
 (SV.tup
 [V1.agg
 [Seg.one (Sc.i IntKind.i64 (Z.Ins.op (X.decI w))), Seg.one (Sc.i IntKind.i64 (Z.Ins.rs (X.decI w))),
 Seg.one (Sc.i IntKind.i64 (Z.Ins.rt (X.decI w))), Seg.one (Sc.i IntKind.i64 (Z.Ins.rd (X.decI w))),
 Seg.one (Sc.i IntKind.i64 (Z.Ins.sa (X.decI w))), Seg.one (Sc.i IntKind.i64 (Z.Ins.imm (X.decI w)))],
 V1.c (Sc.i IntKind.i64 (0 : Int))],
 []))
 (Tr.ret
 (SV.tup
 [V1.agg
 [Seg.one (Sc.i IntKind.i64 (0 : Int)), Seg.one (Sc.i IntKind.i64 (0 : Int)), Seg.one (Sc.i IntKind.i64 (0 : Int)),
 Seg.one (Sc.i IntKind.i64 (0 : Int)), Seg.one (Sc.i IntKind.i64 (0 : Int)), Seg.one (Sc.i IntKind.i64 (0 : Int))],
 V1.c (Sc.i IntKind.i64 (40 : Int))],
 [])))

theorem run_decode_Decode (w : Int) (W : List Rw) : runF cx_decode_Decode 32 [.cell 2 42, .tmp 3] (codeOf Try.f24) [(.v (.c (.i .u32 w)))] [] W = out_decode_Decode w := by kernel_rfl
theorem pf_decode_Decode (w : Int) (K : SV × List Bk → Prop) (h : (.ass (U32 w) (.ret (.tup [.agg [.one (.i .i64 (decI w).op), .one (.i .i64 (decI w).rs), .one (.i .i64 (decI w).rt), .one (.i .i64 (decI w).rd), .one (.i .i64 (decI w).sa), .one (.i .i64 (decI w).imm)], .c (.i .i64 (decE w))], [])) : Tr (SV × List Bk)).all K) : (out_decode_Decode w).all K := by
  obtain ⟨hp, h⟩ := h
  replace h := h hp
  replace h : K _ := h
  unfold out_decode_Decode
  simp only [Tr.all]
  refine ⟨⟨by simp, hp⟩, fun _ => ⟨fun h1 => ?_, fun h1 => ?_⟩⟩
  · refine leafE h ?_
    unfold decB at h1
    obtain ⟨k, hk⟩ := Option.isSome_iff_exists.1 h1
    simp [decE, hk]
  · refine leafE h ?_
    unfold decB at h1
    have hk : Z.decOf w = none := by simpa using h1
    simp [decE, decI, hk]
noncomputable def con_decode_Decode : Con := ⟨true, fun args H W => match args, H, W with
  | [(.v (.c (.i .u32 w)))], [], _ => .ass (U32 w) (.ret (.tup [.agg [.one (.i .i64 (decI w).op), .one (.i .i64 (decI w).rs), .one (.i .i64 (decI w).rt), .one (.i .i64 (decI w).rd), .one (.i .i64 (decI w).sa), .one (.i .i64 (decI w).imm)], .c (.i .i64 (decE w))], []))
  | _, _, _ => .stuck 900⟩
theorem lpok_decode_Decode (c : Z.Cx) (ρ0 : List Nat) (W : List Rw) (hR : repR W c.R) (hne : ρ0.length ≤ 0) : LpOK Try.prog cx_decode_Decode c ρ0 32 W (codeOf Try.f24) := LpOK.all (ls := [((loopC 2 (codeOf Try.f24)), lp_Decode)]) (by kernel_rfl) ⟨⟨(by kernel_rfl), lpc_lp_Decode c ρ0 W hR hne⟩, trivial⟩
theorem ok_decode_Decode : ConOK Try.prog 24 con_decode_Decode := con_ok (code := (codeOf Try.f24)) (N := 32) (rs := [.cell 2 42, .tmp 3]) cx_decode_Decode_ok 0 Try.func24 rfl rfl rfl lpok_decode_Decode (by
  intro args H W K h hro
  unfold con_decode_Decode at h
  simp only at h
  split at h
  · refine ⟨rfl, ?_⟩
    rw [run_decode_Decode]
    exact pf_decode_Decode _ K h
  · exact h.elim)
noncomputable def cx_ir_one : Ctx := mkCtx tys eqs [(25, con_ir_kind), (45, con_decode_Form)] []
theorem cx_ir_one_ok : CtxOK Try.prog cx_ir_one := mkCtx_ok _ mixed tys_ok eqs_ok ⟨⟨ok_ir_kind, Try.call25⟩, ⟨⟨ok_decode_Form, Try.call45⟩, trivial⟩⟩
noncomputable def out_ir_one (op : Int) (rs : Int) (rt : Int) (rd : Int) (sa : Int) (im : Int) : Tr (SV × List Bk) :=
Tr.ite (decide (X.formL op = [(83 : UInt8), (72 : UInt8)]))
 (Tr.ite (decide (rd = (0 : Int)))
 (Tr.ret
 (SV.v
 (V1.agg
 [Seg.one (Sc.i IntKind.i64 (0 : Int)), Seg.one (Sc.i IntKind.i64 (0 : Int)), Seg.one (Sc.i IntKind.i64 (0 : Int)),
 Seg.one (Sc.i IntKind.i64 (0 : Int)), Seg.one (Sc.i IntKind.u32 (0 : Int)), Seg.one (Sc.i IntKind.i64 (0 : Int))]),
 []))
 (Tr.ret
 (SV.v
 (V1.agg
 [Seg.one (Sc.i IntKind.i64 (Z.kindOf op)), Seg.one (Sc.i IntKind.i64 rd), Seg.one (Sc.i IntKind.i64 rt),
 Seg.one (Sc.i IntKind.i64 (32 : Int)), Seg.one (Sc.i IntKind.u32 (IntKind.wrap IntKind.u32 sa)), Seg.one (Sc.i IntKind.i64 (0 : Int))]),
 [])))
 (Tr.ite (decide (X.formL op = [(83 : UInt8), (86 : UInt8)]))
 (Tr.ite (decide (rd = (0 : Int)))
 (Tr.ret
 (SV.v
 (V1.agg
 [Seg.one (Sc.i IntKind.i64 (0 : Int)), Seg.one (Sc.i IntKind.i64 (0 : Int)), Seg.one (Sc.i IntKind.i64 (0 : Int)),
 Seg.one (Sc.i IntKind.i64 (0 : Int)), Seg.one (Sc.i IntKind.u32 (0 : Int)), Seg.one (Sc.i IntKind.i64 (0 : Int))]),
 []))
 (Tr.ret
 (SV.v
 (V1.agg
 [Seg.one (Sc.i IntKind.i64 (Z.kindOf op)), Seg.one (Sc.i IntKind.i64 rd), Seg.one (Sc.i IntKind.i64 rt),
 Seg.one (Sc.i IntKind.i64 rs), Seg.one (Sc.i IntKind.u32 (0 : Int)), Seg.one (Sc.i IntKind.i64 (0 : Int))]),
 [])))
 (Tr.ite (bif decide (X.formL op = [(73 : UInt8)]) then true else decide (X.formL op = [(73 : UInt8), (85 : UInt8)]))
 (Tr.ite (decide (rt = (0 : Int)))
 (Tr.ret
 (SV.v
 (V1.agg
 [Seg.one (Sc.i IntKind.i64 (0 : Int)), Seg.one (Sc.i IntKind.i64 (0 : Int)), Seg.one (Sc.i IntKind.i64 (0 : Int)),
 Seg.one (Sc.i IntKind.i64 (0 : Int)), Seg.one (Sc.i IntKind.u32 (0 : Int)), Seg.one (Sc.i IntKind.i64 (0 : Int))]),
 []))
 (Tr.ret
 (SV.v
 (V1.agg
 [Seg.one (Sc.i IntKind.i64 (Z.kindOf op)), Seg.one (Sc.i IntKind.i64 rt), Seg.one (Sc.i IntKind.i64 rs),
 Seg.one (Sc.i IntKind.i64 (32 : Int)), Seg.one (Sc.i IntKind.u32 (IntKind.wrap IntKind.u32 im)), Seg.one (Sc.i IntKind.i64 (0 : Int))]),
 [])))
 (Tr.ite (decide (X.formL op = [(76 : UInt8), (85 : UInt8), (73 : UInt8)]))
 (Tr.ass ((0 : Int) ≤ (16 : Int))
 (Tr.ite (decide (rt = (0 : Int)))
 (Tr.ret
 (SV.v
 (V1.agg
 [Seg.one (Sc.i IntKind.i64 (0 : Int)), Seg.one (Sc.i IntKind.i64 (0 : Int)), Seg.one (Sc.i IntKind.i64 (0 : Int)),
 Seg.one (Sc.i IntKind.i64 (0 : Int)), Seg.one (Sc.i IntKind.u32 (0 : Int)), Seg.one (Sc.i IntKind.i64 (0 : Int))]),
 []))
 (Tr.ret
 (SV.v
 (V1.agg
 [Seg.one (Sc.i IntKind.i64 (Z.kindOf op)), Seg.one (Sc.i IntKind.i64 rt), Seg.one (Sc.i IntKind.i64 (0 : Int)),
 Seg.one (Sc.i IntKind.i64 (0 : Int)),
 Seg.one
 (Sc.i IntKind.u32 (IntKind.wrap IntKind.u32 (IntKind.wrap IntKind.u32 im * (2 : Int) ^ Min.min (Int.toNat (16 : Int)) (IntKind.bits IntKind.u32)))),
 Seg.one (Sc.i IntKind.i64 (0 : Int))]),
 []))))
 (Tr.ite (decide (rd = (0 : Int)))
 (Tr.ret
 (SV.v
 (V1.agg
 [Seg.one (Sc.i IntKind.i64 (0 : Int)), Seg.one (Sc.i IntKind.i64 (0 : Int)), Seg.one (Sc.i IntKind.i64 (0 : Int)),
 Seg.one (Sc.i IntKind.i64 (0 : Int)), Seg.one (Sc.i IntKind.u32 (0 : Int)), Seg.one (Sc.i IntKind.i64 (0 : Int))]),
 []))
 (Tr.ret
 (SV.v
 (V1.agg
 [Seg.one (Sc.i IntKind.i64 (Z.kindOf op)), Seg.one (Sc.i IntKind.i64 rd), Seg.one (Sc.i IntKind.i64 rs),
 Seg.one (Sc.i IntKind.i64 rt), Seg.one (Sc.i IntKind.u32 (0 : Int)), Seg.one (Sc.i IntKind.i64 (0 : Int))]),
 []))))))

theorem run_ir_one (op : Int) (rs : Int) (rt : Int) (rd : Int) (sa : Int) (im : Int) (W : List Rw) : runF cx_ir_one 63 [.cell 2 28] (codeOf Try.f26) [(.v (.agg [.one (.i .i64 op), .one (.i .i64 rs), .one (.i .i64 rt), .one (.i .i64 rd), .one (.i .i64 sa), .one (.i .i64 im)]))] [] W = out_ir_one op rs rt rd sa im := by kernel_rfl
theorem pf_ir_one (op : Int) (rs : Int) (rt : Int) (rd : Int) (sa : Int) (im : Int) (K : SV × List Bk → Prop) (h : (.ret (.v (.agg [.one (.i .i64 (Z.oneOf ⟨op, rs, rt, rd, sa, im⟩).k), .one (.i .i64 (Z.oneOf ⟨op, rs, rt, rd, sa, im⟩).d), .one (.i .i64 (Z.oneOf ⟨op, rs, rt, rd, sa, im⟩).a), .one (.i .i64 (Z.oneOf ⟨op, rs, rt, rd, sa, im⟩).b), .one (.i .u32 (Z.oneOf ⟨op, rs, rt, rd, sa, im⟩).i), .one (.i .i64 (Z.oneOf ⟨op, rs, rt, rd, sa, im⟩).c)]), []) : Tr (SV × List Bk)).all K) : (out_ir_one op rs rt rd sa im).all K := by
  replace h : K _ := h
  unfold out_ir_one
  have f0 : formL op = [83, 72] ↔ Z.formOf op = ⟨#[83, 72]⟩ := formL_eq (b := ⟨#[83, 72]⟩)
  have f1 : formL op = [83, 86] ↔ Z.formOf op = ⟨#[83, 86]⟩ := formL_eq (b := ⟨#[83, 86]⟩)
  have f2 : formL op = [73] ↔ Z.formOf op = ⟨#[73]⟩ := formL_eq (b := ⟨#[73]⟩)
  have f3 : formL op = [73, 85] ↔ Z.formOf op = ⟨#[73, 85]⟩ := formL_eq (b := ⟨#[73, 85]⟩)
  have f4 : formL op = [76, 85, 73] ↔ Z.formOf op = ⟨#[76, 85, 73]⟩ := formL_eq (b := ⟨#[76, 85, 73]⟩)
  simp only [Tr.all, Z.wU32]
  repeat' (first | with_reducible apply And.intro | with_reducible intro)
  all_goals (try simp only [Bool.cond_true_left, Bool.or_eq_true, Bool.or_eq_false_iff, decide_eq_true_eq, decide_eq_false_iff_not, ← not_or] at *)
  all_goals (simp only [f0, f1, f2, f3, f4] at *)
  all_goals first
    | (clear h; omega)
    | (refine leafE h ?_; rw [Z.one_no (Z.oneSH (i := ⟨op, rs, rt, rd, sa, im⟩) (by assumption)) (by assumption)]; try rfl)
    | (refine leafE h ?_; rw [Z.one_yes (Z.oneSH (i := ⟨op, rs, rt, rd, sa, im⟩) (by assumption)) (by assumption)]; try rfl)
    | (refine leafE h ?_; rw [Z.one_no (Z.oneSV (i := ⟨op, rs, rt, rd, sa, im⟩) (by assumption) (by assumption)) (by assumption)]; try rfl)
    | (refine leafE h ?_; rw [Z.one_yes (Z.oneSV (i := ⟨op, rs, rt, rd, sa, im⟩) (by assumption) (by assumption)) (by assumption)]; try rfl)
    | (refine leafE h ?_; rw [Z.one_no (Z.oneI (i := ⟨op, rs, rt, rd, sa, im⟩) (by assumption) (by assumption) (by assumption)) (by assumption)]; try rfl)
    | (refine leafE h ?_; rw [Z.one_yes (Z.oneI (i := ⟨op, rs, rt, rd, sa, im⟩) (by assumption) (by assumption) (by assumption)) (by assumption)]; try rfl)
    | (refine leafE h ?_; rw [Z.one_no (Z.oneL (i := ⟨op, rs, rt, rd, sa, im⟩) (by assumption) (by assumption) (by assumption) (by assumption)) (by assumption)]; try rfl)
    | (refine leafE h ?_; rw [Z.one_yes (Z.oneL (i := ⟨op, rs, rt, rd, sa, im⟩) (by assumption) (by assumption) (by assumption) (by assumption)) (by assumption)]; try rfl)
    | (refine leafE h ?_; rw [Z.one_no (Z.oneR (i := ⟨op, rs, rt, rd, sa, im⟩) (by assumption) (by assumption) (by assumption) (by assumption)) (by assumption)]; try rfl)
    | (refine leafE h ?_; rw [Z.one_yes (Z.oneR (i := ⟨op, rs, rt, rd, sa, im⟩) (by assumption) (by assumption) (by assumption) (by assumption)) (by assumption)]; try rfl)
noncomputable def con_ir_one : Con := ⟨true, fun args H W => match args, H, W with
  | [(.v (.agg [.one (.i .i64 op), .one (.i .i64 rs), .one (.i .i64 rt), .one (.i .i64 rd), .one (.i .i64 sa), .one (.i .i64 im)]))], [], _ => .ret (.v (.agg [.one (.i .i64 (Z.oneOf ⟨op, rs, rt, rd, sa, im⟩).k), .one (.i .i64 (Z.oneOf ⟨op, rs, rt, rd, sa, im⟩).d), .one (.i .i64 (Z.oneOf ⟨op, rs, rt, rd, sa, im⟩).a), .one (.i .i64 (Z.oneOf ⟨op, rs, rt, rd, sa, im⟩).b), .one (.i .u32 (Z.oneOf ⟨op, rs, rt, rd, sa, im⟩).i), .one (.i .i64 (Z.oneOf ⟨op, rs, rt, rd, sa, im⟩).c)]), [])
  | _, _, _ => .stuck 900⟩
theorem ok_ir_one : ConOK Try.prog 26 con_ir_one := con_ok (code := (codeOf Try.f26)) (N := 63) (rs := [.cell 2 28]) cx_ir_one_ok 0 Try.func26 rfl rfl rfl (fun _ _ _ _ _ => LpOK.no (by kernel_rfl)) (by
  intro args H W K h hro
  unfold con_ir_one at h
  simp only at h
  split at h
  · refine ⟨rfl, ?_⟩
    rw [run_ir_one]
    exact pf_ir_one _ _ _ _ _ _ K h
  · exact h.elim)
end Go.Y
