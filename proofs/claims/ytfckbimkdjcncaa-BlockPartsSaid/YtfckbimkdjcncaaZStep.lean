/- Steps with an effect in a region that draws. Generic in the program. -/
import Derived.Test.YtfckbimkdjcncaaZDraw
set_option linter.unusedSimpArgs false
set_option linter.unusedVariables false
namespace Go.Z
section
variable {P : Program} {c : Cx} {ops : Array Oper} {K : Act → World → Prop} {S : Tn} {N : Nat} {e : Env} {H : List Blk} {d : Nat} {t : TypeId} {p : String} {af : Array Edge} {j : Nat} {r : Plan}
theorem stepO_value {o : Oper} {a : Act} {w w' : World} {v : Value} {K' : Value → World → Prop} (hg : o.guard = none) (hr : (execOp a.eval o).run P w = .ok (.value v) w') (h : K' v w') : stepO P ops o a w K' := by
  unfold stepO runsTo
  rw [if_pos (by simp [Region.wanted, hg]), hr]
  exact h
theorem stepO_skip {o : Oper} {a : Act} {w w' : World} {K' : Value → World → Prop} (hg : o.guard = none) (hr : (execOp a.eval o).run P w = .ok .skip w') (h : K' undef w') : stepO P ops o a w K' := by
  unfold stepO runsTo
  rw [if_pos (by simp [Region.wanted, hg]), hr]
  exact h
theorem stepO_enter {o : Oper} {a : Act} {w w' : World} {f : FuncId} {args : Array Value} {K' : Value → World → Prop} (hg : o.guard = none) (hr : (execOp a.eval o).run P w = .ok (.enter f args) w') (h : Calls P f args w' (fun e w'' => ∃ v, e = .returned v ∧ K' v w'')) : stepO P ops o a w K' := by
  unfold stepO runsTo
  rw [if_pos (by simp [Region.wanted, hg]), hr]
  exact h
theorem TS.box {x : Operand} {v : Value} {cs : List Value} {ty : TypeId} (hi : ops[j]? = some ⟨some d, .box ty x, t, p, af, none⟩) (hx : ev e x = some v) (hv : v.cells = cs.toArray) (hd : Nat.blt d N = true)
    (h : ∀ b, S.n0 ≤ b → TD P c ops K S N r (upd e d (.pointer (some ⟨b, 0, none⟩))) (H ++ [⟨b, ty, cs, (0, 0), true⟩])) : TS P c ops K S N j r e H := ⟨_, hi, fun a w ha hw hn0 => by
  have hrun : (execOp a.eval ⟨some d, .box ty x, t, p, af, none⟩).run P w = .ok (.value (.pointer (some ⟨w.heap.size, 0, none⟩))) (w.alloc (.cells cs.toArray ty)) := by
    simp [execOp, ha.ev hx, Instr.box, newVar, newRow, hv]
  exact stepO_value rfl hrun ⟨⟨by rw [heap_alloc_size]; omega, fun k hk _ => heap_alloc_old _ _ hk, rfl, rfl, rfl⟩, fun f l ho hs => h _ hn0 f l ho hs _ _ (ha.put _ hd) (hw.alloc ty cs (0, 0)) (by rw [heap_alloc_size]; omega)⟩⟩
theorem TS.alloc {v : Value} {cs : List Value} {ty : TypeId} (hi : ops[j]? = some ⟨some d, .alloc ty, t, p, af, none⟩) (hz : Zro P ty v) (hv : v.cells = cs.toArray) (hd : Nat.blt d N = true)
    (h : ∀ b, S.n0 ≤ b → TD P c ops K S N r (upd e d (.pointer (some ⟨b, 0, none⟩))) (H ++ [⟨b, ty, cs, (0, 0), true⟩])) : TS P c ops K S N j r e H := ⟨_, hi, fun a w ha hw hn0 => by
  have hrun : (execOp a.eval ⟨some d, .alloc ty, t, p, af, none⟩).run P w = .ok (.value (.pointer (some ⟨w.heap.size, 0, none⟩))) (w.alloc (.cells cs.toArray ty)) := by
    simp [execOp, Instr.alloc, newVar, newRow, hv, hz w]
  exact stepO_value rfl hrun ⟨⟨by rw [heap_alloc_size]; omega, fun k hk _ => heap_alloc_old _ _ hk, rfl, rfl, rfl⟩, fun f l ho hs => h _ hn0 f l ho hs _ _ (ha.put _ hd) (hw.alloc ty cs (0, 0)) (by rw [heap_alloc_size]; omega)⟩⟩
theorem TS.store (i : Nat) {x y : Operand} {b o ty n : Nat} {B : Blk} {v : Value} {vs : List Value} (hi : ops[j]? = some ⟨none, .store ty x y, t, p, af, none⟩) (hx : ev e x = some (.pointer (some ⟨b, o, none⟩))) (hy : ev e y = some v) (hB : H[i]? = some B) (hb : B.b = b) (hwr : B.wr = true)
    (hfz : B.fz = (0, 0)) (hL : ∀ w, (sizeOf ty).run P w = .ok n w) (hv : v.cells = vs.toArray) (hn : vs.length = n) (hp : vs.all plainV = true) (ho : o + vs.length ≤ B.cs.length) (hS : S.at j b)
    (h : TD P c ops K S N r e (setB H i (setL B.cs o vs))) : TS P c ops K S N j r e H := ⟨_, hi, fun a w ha hw hn0 => by
  subst hb
  obtain ⟨w', hrun, hgood⟩ := run_storeCells (P := P) vs 0 hw hB hwr hfz hp (o := o) (by omega)
  have h1 : Good ⟨w, [B.b], [B.b], []⟩ w [B] := ⟨fun x hx => by rw [List.mem_singleton] at hx; subst hx; exact hw.has _ (List.mem_of_getElem? hB), by simp, fun x hx _ => by rw [List.mem_singleton] at hx; subst hx; exact .inr (by simp),
    fun x hx => by rw [List.mem_singleton] at hx; subst hx; exact .inr (by simp), Keep.refl _ _, fun r hr => by cases hr⟩
  obtain ⟨w2, hrun2, hgood2⟩ := run_storeCells (P := P) (i := 0) vs 0 h1 rfl hwr hfz hp (o := o) (by omega)
  have hww : w2 = w' := by rw [hrun] at hrun2; injection hrun2 with _ h3; exact h3.symm
  have hrun : (execOp a.eval ⟨none, .store ty x y, t, p, af, none⟩).run P w = .ok .skip w' := by
    simp [execOp, ha.ev hx, ha.ev hy, Instr.storeAt, Instr.sureAddr, storeVar, hL w, hv, hn, hrun]
  exact stepO_skip rfl hrun ⟨(hww ▸ hgood2.keep).toP (fun k hk => by rw [List.mem_singleton] at hk; subst hk; exact hS), fun f l ho hs => h f l ho hs _ _ ha hgood (Nat.le_trans hn0 (hww ▸ hgood2.keep).size)⟩⟩
theorem TS.call (is : List Nat) {f : FuncId} {dst : Option Nat} {xs : Array Operand} {ts : Array TypeId} {vs : List Value} {H1 H2 : List Blk} {R1 : List Row} {K' : Value → List Blk → Prop} (hi : ops[j]? = some ⟨dst, .call ⟨.value (.func f), xs, ts⟩, t, p, af, none⟩)
    (hcall : ∀ args w, (callFunc f args).run P w = .ok (.enter f args) w) (hargs : evs e xs.toList = some vs) (htake : takeB is H = some (H1, H2)) (hsp : Spec P f vs H1 R1 K')
    (hrows : ∀ w, Good c w H → ∀ r ∈ R1, RowAt w r ∧ ∀ x ∈ H1, x.wr = true → r.cs ≠ [] → x.b ≠ r.b) (hd : ∀ t, dst = some t → Nat.blt t N = true) (hS : ∀ k, k ∈ wids H1 → S.at j k)
    (h : ∀ v H', K' v H' → TD P c ops K S N r (updO e dst v) (H' ++ H2)) : TS P c ops K S N j r e H := ⟨_, hi, fun a w ha hw hn0 => by
  have hrun : (execOp a.eval ⟨dst, .call ⟨.value (.func f), xs, ts⟩, t, p, af, none⟩).run P w = .ok (.enter f vs.toArray) w := by
    have h1 : xs.map a.eval = vs.toArray := by
      rw [← ha.evs hargs]
      exact Array.toList_inj.1 (by rw [Array.toList_map])
    simp [execOp, resolve, h1, Act.eval, Deferred.ofValue, invoke, hcall]
  have hg := hw.perm (takeB_perm htake)
  have hpre : Pre w H1 R1 := by
    have hs := hg.heap_of (List.sublist_append_left H1 H2)
    exact ⟨hs.has, hs.nodup, fun r hr => hrows w hw r hr⟩
  refine stepO_enter rfl hrun ((hsp w hpre).mono ?_)
  rintro en w' ⟨v, H', rfl, hk, hg'⟩
  exact ⟨v, rfl, hg'.keep.toP hS, fun f l ho hs => h v H' hk f l ho hs _ _ (ha.putO v hd) (hg.back hg') (Nat.le_trans hn0 hg'.keep.size)⟩⟩
end
end Go.Z
