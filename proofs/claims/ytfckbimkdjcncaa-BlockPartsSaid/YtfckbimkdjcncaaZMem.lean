/- Memory: blocks that are known whole, rows that are only read. Generic in the program. -/
import Derived.Test.YtfckbimkdjcncaaZOps
set_option linter.unusedSimpArgs false
set_option linter.unusedVariables false
namespace Go.Z
/-! ### The world's changes -/
section
variable {c : Cx} {w : World} {H : List Blk}
theorem heap_alloc_old (w : World) (o : Obj) {k : Nat} (h : k < w.heap.size) : (w.alloc o).heap[k]? = w.heap[k]? := by
  show (w.heap.push o)[k]? = _
  rw [Array.getElem?_push, if_neg (by omega)]
theorem heap_alloc_new (w : World) (o : Obj) : (w.alloc o).heap[w.heap.size]? = some o := by
  show (w.heap.push o)[w.heap.size]? = _
  simp
theorem heap_alloc_size (w : World) (o : Obj) : (w.alloc o).heap.size = w.heap.size + 1 := by
  show (w.heap.push o).size = _
  simp
theorem Good.alloc (h : Good c w H) (t : TypeId) (cs : List Value) (fz : Nat × Nat) :
    Good c (w.alloc (.cells cs.toArray t fz)) (H ++ [⟨w.heap.size, t, cs, fz, true⟩]) := by
  refine ⟨fun x hx => ?_, ?_, fun x hx _ => ?_, fun x hx => ?_, ?_, fun r hr => ⟨?_, fun x hx hwr hne => ?_⟩⟩
  · rcases List.mem_append.1 hx with hx | hx
    · rw [heap_alloc_old _ _ (h.lt hx)]; exact h.has x hx
    · simp only [List.mem_singleton] at hx
      subst hx
      exact heap_alloc_new _ _
  · rw [List.map_append, List.map_singleton]
    refine List.nodup_append.2 ⟨h.nodup, by simp, fun a ha b hb => ?_⟩
    simp only [List.mem_singleton] at hb
    obtain ⟨x, hx, rfl⟩ := List.mem_map.1 ha
    have := h.lt hx
    omega
  · rcases List.mem_append.1 hx with hx | hx
    · rename_i hwr; exact h.mine x hx hwr
    · simp only [List.mem_singleton] at hx
      subst hx
      exact .inl h.keep.size
  · rcases List.mem_append.1 hx with hx | hx
    · exact h.own x hx
    · simp only [List.mem_singleton] at hx
      subst hx
      exact .inl h.keep.size
  · exact h.keep.trans ⟨by rw [heap_alloc_size]; omega, fun k hk _ => heap_alloc_old _ _ hk, rfl, rfl, rfl⟩
  · exact (h.rows r hr).1.same fun hne => heap_alloc_old _ _ ((h.rows r hr).1.lt hne)
  · rcases List.mem_append.1 hx with hx | hx
    · exact (h.rows r hr).2 x hx hwr hne
    · simp only [List.mem_singleton] at hx
      subst hx
      have := (h.rows r hr).1.lt hne
      show w.heap.size ≠ r.b
      omega
theorem heap_setCell_other (w : World) (a : Addr) (u : Value) {k : Nat} (h : k ≠ a.block) : (w.setCell a u).heap[k]? = w.heap[k]? := by
  simp only [World.setCell, Array.getElem?_modify]
  rw [if_neg (by omega)]
theorem heap_setCell_same (w : World) {b o : Nat} (u : Value) {cs : List Value} {t : TypeId} {fz : Nat × Nat} (h : w.heap[b]? = some (.cells cs.toArray t fz)) :
    (w.setCell ⟨b, o, none⟩ u).heap[b]? = some (.cells (cs.set o u).toArray t fz) := by
  simp [World.setCell, Array.getElem?_modify, h]
theorem heap_setCell_size (w : World) (a : Addr) (u : Value) : (w.setCell a u).heap.size = w.heap.size := by
  simp [World.setCell]
/-- the block number i, its cells turned -/
def setB (H : List Blk) (i : Nat) (cs : List Value) : List Blk := match H, i with
  | [], _ => []
  | x :: r, 0 => { x with cs := cs } :: r
  | x :: r, i + 1 => x :: setB r i cs
theorem setB_b : ∀ (H : List Blk) (i : Nat) (cs : List Value), (setB H i cs).map Blk.b = H.map Blk.b
  | [], _, _ => rfl
  | _ :: _, 0, _ => rfl
  | x :: r, i + 1, cs => by simp [setB, setB_b r i cs]
theorem mem_setB : ∀ {H : List Blk} {i : Nat} {cs : List Value} {x y : Blk}, H[i]? = some x → (H.map Blk.b).Nodup → y ∈ setB H i cs → (y = { x with cs := cs }) ∨ (y ∈ H ∧ y.b ≠ x.b)
  | [], _, _, _, _, h, _, _ => by simp at h
  | z :: r, 0, cs, x, y, h, hn, hy => by
    simp only [List.getElem?_cons_zero, Option.some.injEq] at h
    subst h
    simp only [setB, List.mem_cons] at hy
    rcases hy with rfl | hy
    · exact .inl rfl
    · refine .inr ⟨List.mem_cons_of_mem _ hy, fun e => ?_⟩
      simp only [List.map_cons, List.nodup_cons] at hn
      exact hn.1 (e ▸ List.mem_map.2 ⟨y, hy, rfl⟩)
  | z :: r, i + 1, cs, x, y, h, hn, hy => by
    simp only [List.getElem?_cons_succ] at h
    simp only [List.map_cons, List.nodup_cons] at hn
    simp only [setB, List.mem_cons] at hy
    rcases hy with rfl | hy
    · refine .inr ⟨List.mem_cons_self, fun e => hn.1 (e ▸ List.mem_map.2 ⟨x, List.mem_of_getElem? h, rfl⟩)⟩
    · rcases mem_setB h hn.2 hy with e | ⟨e, ne⟩
      · exact .inl e
      · exact .inr ⟨List.mem_cons_of_mem _ e, ne⟩
theorem Good.setCell (h : Good c w H) {i : Nat} {x : Blk} (hx : H[i]? = some x) (hwr : x.wr = true) (o : Nat) (u : Value) :
    Good c (w.setCell ⟨x.b, o, none⟩ u) (setB H i (x.cs.set o u)) := by
  have hxm := List.mem_of_getElem? hx
  refine ⟨fun y hy => ?_, by rw [setB_b]; exact h.nodup, fun y hy hyw => ?_, fun y hy => ?_, ?_, fun r hr => ⟨?_, fun y hy hyw hne => ?_⟩⟩
  · rcases mem_setB hx h.nodup hy with rfl | ⟨hy, hne⟩
    · exact heap_setCell_same w u (h.has x hxm)
    · rw [heap_setCell_other _ _ _ hne]; exact h.has y hy
  · rcases mem_setB hx h.nodup hy with rfl | ⟨hy, _⟩
    · exact h.mine x hxm hwr
    · exact h.mine y hy hyw
  · rcases mem_setB hx h.nodup hy with rfl | ⟨hy, _⟩
    · exact h.own x hxm
    · exact h.own y hy
  · refine ⟨by rw [heap_setCell_size]; exact h.keep.size, fun k hk hks => ?_, h.keep.os, h.keep.tape, h.keep.output⟩
    rw [heap_setCell_other _ _ _ (fun e => by
      rcases h.mine x hxm hwr with h1 | h1
      · have : k = x.b := e; omega
      · exact hks (e ▸ h1))]
    exact h.keep.block k hk hks
  · exact (h.rows r hr).1.same fun hne => heap_setCell_other _ _ _ (fun e => (h.rows r hr).2 x hxm hwr hne e.symm)
  · rcases mem_setB hx h.nodup hy with rfl | ⟨hy, _⟩
    · exact (h.rows r hr).2 x hxm hwr hne
    · exact (h.rows r hr).2 y hy hyw hne
theorem Good.cell (h : Good c w H) {i : Nat} {x : Blk} (hx : H[i]? = some x) {o : Nat} {v : Value} (hv : x.cs[o]? = some v) : w.cell? ⟨x.b, o, none⟩ = some v := by
  simp [World.cell?, h.has x (List.mem_of_getElem? hx), hv]
theorem Good.unfrozen (h : Good c w H) {i : Nat} {x : Blk} (hx : H[i]? = some x) {o : Nat} (hf : (Nat.ble x.fz.1 o && Nat.blt o x.fz.2) = false) : w.frozen? ⟨x.b, o, none⟩ = false := by
  have e1 : Nat.ble x.fz.1 o = decide (x.fz.1 ≤ o) := by rw [Bool.eq_iff_iff]; simp
  have e2 : Nat.blt o x.fz.2 = decide (o < x.fz.2) := by rw [Bool.eq_iff_iff]; simp [Nat.blt_eq]
  rw [e1, e2] at hf
  simpa [World.frozen?, h.has x (List.mem_of_getElem? hx)] using hf
end
/-! ### Facts on types, one a type -/
def One (P : Program) (t : TypeId) : Prop := ∀ w, (isAgg t).run P w = .ok false w ∧ (sizeOf t).run P w = .ok 1 w
def Agg (P : Program) (t : TypeId) (n : Nat) : Prop := ∀ w, (isAgg t).run P w = .ok true w ∧ (sizeOf t).run P w = .ok n w
def Fld (P : Program) (s f off : Nat) : Prop := ∀ b o w, (Instr.fieldAt s (.pointer (some ⟨b, o, none⟩)) f).run P w = .ok (.pointer (some ⟨b, o + off, none⟩)) w
def Zro (P : Program) (t : TypeId) (v : Value) : Prop := ∀ w, (zeroValue t).run P w = .ok v w
structure ArrT (P : Program) (t : TypeId) (n sz : Nat) : Prop where
  ok : ∃ e, P.underlying t = some (.array n e) ∧ ∀ w, (sizeOf e).run P w = .ok sz w
structure SlcT (P : Program) (t : TypeId) (sz : Nat) : Prop where
  ok : ∃ e, P.underlying t = some (.slice e) ∧ ∀ w, (sizeOf e).run P w = .ok sz w
theorem Fld.mk {P : Program} {s f off n : Nat} {fs : Array Field} {fd : Field} (hu : P.underlying s = some (.struct fs)) (hf : fs[f]? = some fd) (ho : fd.offset = off)
    (hs : ∀ w, (sizeOf fd.type).run P w = .ok n w) (hn : n ≠ 0) : Fld P s f off := fun b o w => by
  subst ho
  simp [Instr.fieldAt, underlying, hu, hf, Instr.sureAddr, fieldPlace, hs, hn, Addr.add]
section
variable {P : Program} {c : Cx} {ops : Array Oper} {Q : Exit → Act → World → Prop} {N : Nat} {e : Env} {H : List Blk} {rest : List Oper} {d : Nat} {t : TypeId} {p : String} {af : Array Edge}
theorem TL.fieldAddr {x : Operand} {b o s f off : Nat} (hx : ev e x = some (.pointer (some ⟨b, o, none⟩))) (hF : Fld P s f off) (hd : Nat.blt d N = true)
    (h : TL P c ops Q N rest (upd e d (.pointer (some ⟨b, o + off, none⟩))) H) : TL P c ops Q N (⟨some d, .fieldAddr s x f, t, p, af, none⟩ :: rest) e H :=
  TL.value' hd (fun a w ha _ => by simp [execOp, ha.ev hx, hF b o w]) h
theorem TL.load1 (i : Nat) {x : Operand} {b o ty : Nat} {B : Blk} {v : Value} (hx : ev e x = some (.pointer (some ⟨b, o, none⟩))) (hB : H[i]? = some B) (hb : B.b = b) (hL : One P ty) (hv : B.cs[o]? = some v) (hd : Nat.blt d N = true)
    (h : TL P c ops Q N rest (upd e d v) H) : TL P c ops Q N (⟨some d, .load ty x, t, p, af, none⟩ :: rest) e H :=
  TL.value' hd (fun a w ha hw => by
    subst hb
    simp [execOp, ha.ev hx, Instr.loadAt, Instr.sureAddr, loadVar, (hL w).1, hw.cell hB hv]) h
theorem TL.loadN (i : Nat) {x : Operand} {b o ty n : Nat} {B : Blk} {vs : List Value} (hx : ev e x = some (.pointer (some ⟨b, o, none⟩))) (hB : H[i]? = some B) (hb : B.b = b) (hL : Agg P ty n) (hvs : (B.cs.drop o).take n = vs) (hn : vs.length = n) (hd : Nat.blt d N = true)
    (h : TL P c ops Q N rest (upd e d (.agg vs.toArray)) H) : TL P c ops Q N (⟨some d, .load ty x, t, p, af, none⟩ :: rest) e H :=
  TL.value' hd (fun a w ha hw => by
    subst hb
    have hc := run_loadCells_list (P := P) (w := w) (⟨B.b, o, none⟩ : Addr) vs (fun j v hj => by
      have hjn : j < n := by rw [← hn]; exact (List.getElem?_eq_some_iff.1 hj).1
      have : B.cs[o + j]? = some v := by rw [← hvs, List.getElem?_take, if_pos hjn, List.getElem?_drop] at hj; exact hj
      have := hw.cell hB this
      unfold Addr.add
      split
      · rename_i h0; subst h0; simpa using this
      · exact this)
    rw [hn] at hc
    simp [execOp, ha.ev hx, Instr.loadAt, Instr.sureAddr, loadVar, (hL w).1, (hL w).2, hc]) h
def plainV : Value → Bool
  | .agg _ | .tuple _ => false
  | _ => true
/-- cells turned, from o on -/
def setL (cs : List Value) (o : Nat) : List Value → List Value
  | [] => cs
  | v :: r => setL (cs.set o v) (o + 1) r
theorem setL_length : ∀ (vs cs : List Value) (o : Nat), (setL cs o vs).length = cs.length
  | [], _, _ => rfl
  | v :: r, cs, o => by rw [setL, setL_length r]; simp
theorem setB_get : ∀ {H : List Blk} {i : Nat} {x : Blk} (cs : List Value), H[i]? = some x → (setB H i cs)[i]? = some { x with cs := cs }
  | [], _, _, _, h => by simp at h
  | z :: r, 0, x, cs, h => by simp at h; subst h; rfl
  | z :: r, i + 1, x, cs, h => by simp at h; simpa [setB] using setB_get cs h
theorem setB_setB : ∀ (H : List Blk) (i : Nat) (cs cs' : List Value), setB (setB H i cs) i cs' = setB H i cs'
  | [], _, _, _ => rfl
  | _ :: _, 0, _, _ => rfl
  | x :: r, i + 1, cs, cs' => by simp [setB, setB_setB r]
theorem setB_id : ∀ {H : List Blk} {i : Nat} {x : Blk}, H[i]? = some x → setB H i x.cs = H
  | [], _, _, _ => rfl
  | z :: r, 0, x, h => by simp at h; subst h; rfl
  | z :: r, i + 1, x, h => by simp at h; simp [setB, setB_id h]
theorem run_store1 {w : World} {a : Addr} {u v : Value} (hc : w.cell? a = some u) (hf : w.frozen? a = false) (hv : plainV v = true) : (store a v).run P w = .ok () (w.setCell a v) := by
  cases v <;> first | (simp [plainV] at hv; done) | simp [store, Sem.run, hc, hf]
theorem run_storeCells : ∀ (vs : List Value) (j : Nat) {w : World} {H : List Blk} {i : Nat} {B : Blk} {o : Nat}, Good c w H → H[i]? = some B → B.wr = true → B.fz = (0, 0) → (vs.all plainV) = true → o + j + vs.length ≤ B.cs.length →
    ∃ w', (storeCells ⟨B.b, o, none⟩ vs j).run P w = .ok () w' ∧ Good c w' (setB H i (setL B.cs (o + j) vs))
  | [], j, w, H, i, B, o, hw, hB, _, _, _, _ => ⟨w, by simp [storeCells], by rw [setL, setB_id hB]; exact hw⟩
  | v :: r, j, w, H, i, B, o, hw, hB, hwr, hfz, hp, hl => by
    simp only [List.all_cons, Bool.and_eq_true] at hp
    simp only [List.length_cons] at hl
    have hlt : o + j < B.cs.length := by omega
    have hc := hw.cell hB (List.getElem?_eq_getElem hlt)
    have hf := hw.unfrozen hB (o := o + j) (by rw [hfz]; rfl)
    have hadd : (⟨B.b, o, none⟩ : Addr).add j = ⟨B.b, o + j, none⟩ := by
      unfold Addr.add
      split
      · rename_i h0; subst h0; rfl
      · rfl
    have hw1 := hw.setCell hB hwr (o + j) v
    obtain ⟨w', hrun, hgood⟩ := run_storeCells r (j + 1) hw1 (setB_get _ hB) hwr hfz hp.2 (o := o) (by simp; omega)
    refine ⟨w', ?_, ?_⟩
    · simp only [storeCells, hadd]
      have h1 := run_store1 (P := P) hc hf hp.1
      simp only [Sem.run_bind, h1] 
      exact hrun
    · rw [setB_setB] at hgood
      exact hgood
theorem TL.store (i : Nat) {x y : Operand} {b o ty n : Nat} {B : Blk} {v : Value} {vs : List Value} (hx : ev e x = some (.pointer (some ⟨b, o, none⟩))) (hy : ev e y = some v) (hB : H[i]? = some B) (hb : B.b = b) (hwr : B.wr = true)
    (hfz : B.fz = (0, 0)) (hL : ∀ w, (sizeOf ty).run P w = .ok n w) (hv : v.cells = vs.toArray) (hn : vs.length = n) (hp : vs.all plainV = true) (ho : o + vs.length ≤ B.cs.length)
    (h : TL P c ops Q N rest e (setB H i (setL B.cs o vs))) : TL P c ops Q N (⟨none, .store ty x y, t, p, af, none⟩ :: rest) e H := fun a w ha hw =>
  wpList_plain rfl fun K hK => by
    subst hb
    obtain ⟨w', hrun, hgood⟩ := run_storeCells (P := P) vs 0 hw hB hwr hfz hp (o := o) (by omega)
    have hrun : (execOp a.eval ⟨none, .store ty x y, t, p, af, none⟩).run P w = .ok .skip w' := by
      simp [execOp, ha.ev hx, ha.ev hy, Instr.storeAt, Instr.sureAddr, storeVar, hL w, hv, hn, hrun]
    unfold Oper.wp
    rw [hrun, Oper.upon_skip]
    exact hK _ _ (h _ _ ha hgood)
theorem TL.box {x : Operand} {v : Value} {cs : List Value} {ty : TypeId} (hx : ev e x = some v) (hv : v.cells = cs.toArray) (hd : Nat.blt d N = true)
    (h : ∀ b, TL P c ops Q N rest (upd e d (.pointer (some ⟨b, 0, none⟩))) (H ++ [⟨b, ty, cs, (0, 0), true⟩])) : TL P c ops Q N (⟨some d, .box ty x, t, p, af, none⟩ :: rest) e H := fun a w ha hw =>
  wpList_plain rfl fun K hK => by
    have hrun : (execOp a.eval ⟨some d, .box ty x, t, p, af, none⟩).run P w = .ok (.value (.pointer (some ⟨w.heap.size, 0, none⟩))) (w.alloc (.cells cs.toArray ty)) := by
      simp [execOp, ha.ev hx, Instr.box, newVar, newRow, hv]
    unfold Oper.wp
    rw [hrun, Oper.upon_value]
    exact hK _ _ (h _ _ _ (ha.put _ hd) (hw.alloc ty cs (0, 0)))
theorem TL.alloc {v : Value} {cs : List Value} {ty : TypeId} (hz : Zro P ty v) (hv : v.cells = cs.toArray) (hd : Nat.blt d N = true)
    (h : ∀ b, TL P c ops Q N rest (upd e d (.pointer (some ⟨b, 0, none⟩))) (H ++ [⟨b, ty, cs, (0, 0), true⟩])) : TL P c ops Q N (⟨some d, .alloc ty, t, p, af, none⟩ :: rest) e H := fun a w ha hw =>
  wpList_plain rfl fun K hK => by
    have hrun : (execOp a.eval ⟨some d, .alloc ty, t, p, af, none⟩).run P w = .ok (.value (.pointer (some ⟨w.heap.size, 0, none⟩))) (w.alloc (.cells cs.toArray ty)) := by
      simp [execOp, Instr.alloc, newVar, newRow, hv, hz w]
    unfold Oper.wp
    rw [hrun, Oper.upon_value]
    exact hK _ _ (h _ _ _ (ha.put _ hd) (hw.alloc ty cs (0, 0)))
theorem TL.indexArr {x y : Operand} {b o ty n sz : Nat} {k : IntKind} {m : Int} (hx : ev e x = some (.pointer (some ⟨b, o, none⟩))) (hy : ev e y = some (.int k m)) (hT : ArrT P ty n sz) (hm : 0 ≤ m ∧ m < n) (hd : Nat.blt d N = true)
    (h : TL P c ops Q N rest (upd e d (.pointer (some ⟨b, o + m.toNat * sz, none⟩))) H) : TL P c ops Q N (⟨some d, .indexAddr ty x y, t, p, af, none⟩ :: rest) e H :=
  TL.value' hd (fun a w ha _ => by
    obtain ⟨el, hu, hs⟩ := hT.ok
    have hadd : (⟨b, o, none⟩ : Addr).add (m.toNat * sz) = ⟨b, o + m.toNat * sz, none⟩ := by
      unfold Addr.add
      split
      · rename_i h0; rw [h0]; rfl
      · rfl
    simp [execOp, ha.ev hx, ha.ev hy, Instr.indexAt, asIntOf, underlying, hu, Instr.sureAddr, hm.1, hm.2, hs, hadd]) h
theorem TL.indexSl {x y : Operand} {b o ty n cap sz : Nat} {k : IntKind} {m : Int} (hx : ev e x = some (.slice (some ⟨b, o, none⟩) n cap)) (hy : ev e y = some (.int k m)) (hT : SlcT P ty sz) (hm : 0 ≤ m ∧ m < n) (hd : Nat.blt d N = true)
    (h : TL P c ops Q N rest (upd e d (.pointer (some ⟨b, o + m.toNat * sz, none⟩))) H) : TL P c ops Q N (⟨some d, .indexAddr ty x y, t, p, af, none⟩ :: rest) e H :=
  TL.value' hd (fun a w ha _ => by
    obtain ⟨el, hu, hs⟩ := hT.ok
    have hadd : (⟨b, o, none⟩ : Addr).add (m.toNat * sz) = ⟨b, o + m.toNat * sz, none⟩ := by
      unfold Addr.add
      split
      · rename_i h0; rw [h0]; rfl
      · rfl
    simp [execOp, ha.ev hx, ha.ev hy, Instr.indexAt, asIntOf, underlying, hu, hm.1, hm.2, hs, hadd]) h
theorem TL.lenSl {x : Operand} {A : Option Addr} {n cap tt sz : Nat} (hx : ev e x = some (.slice A n cap)) (hT : SlcT P tt sz) (hd : Nat.blt d N = true)
    (h : TL P c ops Q N rest (upd e d (.int .i64 n)) H) : TL P c ops Q N (⟨some d, .call ⟨.builtin .len, #[x], #[tt]⟩, t, p, af, none⟩ :: rest) e H :=
  TL.value' hd (fun a w ha _ => by
    obtain ⟨el, hu, _⟩ := hT.ok
    simp [execOp, resolve, ha.ev hx, invoke, builtin, Builtin.len_, goInt, underlying, hu]) h
theorem TL.lenStr {x : Operand} {s : ByteArray} {tt : TypeId} (hx : ev e x = some (.string s)) (hT : P.underlying tt = some .string) (hd : Nat.blt d N = true)
    (h : TL P c ops Q N rest (upd e d (.int .i64 s.size)) H) : TL P c ops Q N (⟨some d, .call ⟨.builtin .len, #[x], #[tt]⟩, t, p, af, none⟩ :: rest) e H :=
  TL.value' hd (fun a w ha _ => by simp [execOp, resolve, ha.ev hx, invoke, builtin, Builtin.len_, goInt, underlying, hT]) h
theorem TL.min {x y : Operand} {k : IntKind} {m n r : Int} {ts : Array TypeId} (hx : ev e x = some (.int k m)) (hy : ev e y = some (.int k n)) (hd : Nat.blt d N = true) (hr : (if n < m then n else m) = r)
    (h : TL P c ops Q N rest (upd e d (.int k r)) H) : TL P c ops Q N (⟨some d, .call ⟨.builtin .min, #[x, y], ts⟩, t, p, af, none⟩ :: rest) e H :=
  TL.value' hd (fun a w ha _ => by simp [execOp, resolve, ha.ev hx, ha.ev hy, invoke, builtin, Builtin.min_, Builtin.min2, ← hr]) h
theorem TL.max {x y : Operand} {k : IntKind} {m n r : Int} {ts : Array TypeId} (hx : ev e x = some (.int k m)) (hy : ev e y = some (.int k n)) (hd : Nat.blt d N = true) (hr : (if m < n then n else m) = r)
    (h : TL P c ops Q N rest (upd e d (.int k r)) H) : TL P c ops Q N (⟨some d, .call ⟨.builtin .max, #[x, y], ts⟩, t, p, af, none⟩ :: rest) e H :=
  TL.value' hd (fun a w ha _ => by simp [execOp, resolve, ha.ev hx, ha.ev hy, invoke, builtin, Builtin.max_, Builtin.max2, ← hr]) h
end
end Go.Z
