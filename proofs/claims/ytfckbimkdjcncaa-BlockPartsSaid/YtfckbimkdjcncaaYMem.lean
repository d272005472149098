/- Reads of memory and of parts: each gives what the reckoner says. Generic in the program. -/
import Derived.Test.YtfckbimkdjcncaaYVal
set_option linter.unusedSimpArgs false
set_option linter.unusedVariables false
namespace Go.Y
open Go.Z (Row Blk plainV Keep RowAt Fits runsTo Pre)
theorem add_addr (b o n : Nat) : (⟨b, o, none⟩ : Addr).add n = ⟨b, o + n, none⟩ := by
  unfold Addr.add
  split
  · rename_i h; rw [h]; rfl
  · rfl
theorem cell_of {w : World} {b o : Nat} {t : TypeId} {fz : Nat × Nat} {cs : List Value} {v : Value} (h : w.heap[b]? = some (.cells cs.toArray t fz)) (hv : cs[o]? = some v) : w.cell? ⟨b, o, none⟩ = some v := by
  simp [World.cell?, h, hv]
theorem loadCells_of {P : Program} {w : World} {b o n : Nat} {t : TypeId} {fz : Nat × Nat} {cs vs : List Value} (h : w.heap[b]? = some (.cells cs.toArray t fz)) (hv : (cs.drop o).take n = vs) (hn : vs.length = n) : (loadCells ⟨b, o, none⟩ n).run P w = .ok vs.toArray w := by
  have hc := run_loadCells_list (P := P) (w := w) (⟨b, o, none⟩ : Addr) vs (fun j v hj => by
    have hjn : j < n := by rw [← hn]; exact (List.getElem?_eq_some_iff.1 hj).1
    have : cs[o + j]? = some v := by rw [← hv, List.getElem?_take, if_pos hjn, List.getElem?_drop] at hj; exact hj
    rw [add_addr]
    exact cell_of h this)
  rw [hn] at hc
  exact hc
theorem loadRow_of {P : Program} {w : World} {r : Row} {o n : Nat} {vs : List Value} (h : RowAt w r) (hv : (r.cs.drop o).take n = vs) (hn : vs.length = n) : (loadCells ⟨r.b, r.off + o, none⟩ n).run P w = .ok vs.toArray w := by
  have hc := run_loadCells_list (P := P) (w := w) (⟨r.b, r.off + o, none⟩ : Addr) vs (fun j v hj => by
    have hjn : j < n := by rw [← hn]; exact (List.getElem?_eq_some_iff.1 hj).1
    have : r.cs[o + j]? = some v := by rw [← hv, List.getElem?_take, if_pos hjn, List.getElem?_drop] at hj; exact hj
    rw [add_addr, Nat.add_assoc]
    exact h _ _ this)
  rw [hn] at hc
  exact hc
theorem cells_ones : ∀ (xs : List Sc), cellsOf (xs.map Seg.one) = xs
  | [] => rfl
  | x :: r => by simp [cellsOf, cells_ones r]
theorem wf_ones : ∀ (xs : List Sc), wfG (xs.map Seg.one)
  | [] => trivial
  | _ :: r => wf_ones r
section
variable {P : Program} {ρ : List Nat} {R : List Row} {Φ : SV → Prop}
theorem repG_ones {xs : List Sc} {vs : List Value} (h : A2 (repS ρ R) xs vs) : repG ρ R (xs.map Seg.one) vs := ⟨wf_ones xs, by rw [cells_ones]; exact h⟩
theorem repH.nth {H : List Bk} {H' : List Blk} (h : repH ρ R H H') {n : Nat} {B : Bk} (hB : nth H n = some B) : ∃ B', H'[n]? = some B' ∧ repB ρ R B B' ∧ ρ[n]? = some B'.b := by
  rw [nth_eq] at hB
  obtain ⟨B', h1, h2⟩ := h.bs.get hB
  refine ⟨B', h1, h2, ?_⟩
  rw [h.ids, List.getElem?_map, h1]
  rfl
theorem repR.nth {W : List Rw} (h : repR W R) {r : Nat} {x : Rw} (hx : nth W r = some x) : ∃ y, R[r]? = some y ∧ ∀ ρ R', A2 (repS ρ R') (x.l.flatMap (Sh.f x.id)) y.cs := by
  rw [nth_eq] at hx
  exact h.get hx
/-- a load out of an element -/
theorem el_load {t : Nat} {ti : TyI} (hti : TyOK P t ti) {id m c : Nat} {l : List (Sh id)} {vs : List Value} (hvs : A2 (repS ρ R) (l.flatMap (Sh.f id)) vs) (hm : m < l.length)
    (h : (bif ti.ag then (bif Nat.ble (c + ti.sz) (Sh.sz id) then (Tr.ret (.v (.agg (((elAt id l m).drop c).take ti.sz |>.map Seg.one))) : Tr SV) else .stuck 140) else (ofO 117 (nth (elAt id l m) c)).bind fun x => .ret (rd1 x)).all Φ) :
    ∃ sv v, Φ sv ∧ repV ρ R sv v ∧ ((ti.ag = true ∧ ∃ us, v = .agg us.toArray ∧ (vs.drop (m * Sh.sz id + c)).take ti.sz = us ∧ us.length = ti.sz) ∨ (ti.ag = false ∧ vs[m * Sh.sz id + c]? = some v)) := by
  cases hag : ti.ag with
  | true =>
    simp only [hag, cond_true] at h
    cases hle : Nat.ble (c + ti.sz) (Sh.sz id) with
    | false => simp only [hle, cond_false] at h; exact h.elim
    | true =>
      simp only [hle, cond_true] at h
      have hle := Nat.le_of_ble_eq_true hle
      have h1 := ((el_rep hvs hm).drop c).take ti.sz
      have e : (((vs.drop (m * Sh.sz id)).take (Sh.sz id)).drop c).take ti.sz = (vs.drop (m * Sh.sz id + c)).take ti.sz := by
        rw [List.drop_take, List.take_take, List.drop_drop]
        congr 1
        omega
      rw [e] at h1
      refine ⟨_, .agg ((vs.drop (m * Sh.sz id + c)).take ti.sz).toArray, h, ⟨_, rfl, repG_ones h1⟩, .inl ⟨rfl, _, rfl, rfl, ?_⟩⟩
      rw [← h1.len]
      have : (elAt id l m).length = Sh.sz id := Sh.f_len id _
      simp [this]
      omega
  | false =>
    simp only [hag, cond_false] at h
    obtain ⟨x, hx, h⟩ := peel h
    obtain ⟨v, hv, hr, _⟩ := el_slot hvs hm hx
    exact ⟨_, v, h, hr, .inr ⟨rfl, hv⟩⟩
theorem arr_mid {ss : List Seg} {cs : List Value} {base id k : Nat} {l : List (Sh id)} (hg : repG ρ R ss cs) (h : getR ss base = some (.arr id k l)) :
    l.length = k ∧ ∃ c1 c2 c3, cs = c1 ++ c2 ++ c3 ∧ c1.length = base ∧ A2 (repS ρ R) (l.flatMap (Sh.f id)) c2 ∧ c2.length = k * Sh.sz id := by
  obtain ⟨hw, hr⟩ := hg
  obtain ⟨pre, post, rfl, hp⟩ := getR_split hw h
  have hw2 := (wfG_app.1 hw).2
  rw [cellsOf_app] at hr
  obtain ⟨c1, c2, rfl, a1, a2⟩ := hr.split
  simp only [cellsOf] at a2
  obtain ⟨c3, c4, rfl, a3, a4⟩ := a2.split
  refine ⟨hw2.1, c1, c3, c4, by simp, by rw [← a1.len, hp], a3, by rw [← a3.len, flat_len, hw2.1]⟩
theorem loadV_sound {t : Nat} {ti : TyI} (hti : TyOK P t ti) {H : List Bk} {H' : List Blk} {W : List Rw} (hH : repH ρ R H H') (hR : repR W R) {x : Sc} {u : Value} {rd : List Nat} {rr : Bool} (h : (loadV ti H W x).all Φ) (hu : repS ρ R x u)
    (hrd : ∀ n ∈ (match x with | .p n _ => [n] | .pe n _ _ _ _ => [n] | _ => []), n ∈ rd) (hrr : (match x with | .rp .. => true | _ => false) = true → rr = true) :
    ∃ sv v, Φ sv ∧ repV ρ R sv v ∧ ∀ w, Mem H' R rd rr w → (Instr.loadAt t u).run P w = .ok v w := by
  unfold loadV at h
  split at h
  · rename_i n o
    obtain ⟨b, hb, rfl⟩ := hu
    obtain ⟨B, hB, h⟩ := peel h
    obtain ⟨B', hB', hrep, hid⟩ := hH.nth hB
    rw [hb] at hid
    cases hid
    have hmem : ∀ w, Mem H' R rd rr w → w.heap[B'.b]? = some (.cells B'.cs.toArray B'.t B'.fz) := fun w hw => hw.blk n (hrd n (by simp)) _ hB'
    cases hag : ti.ag with
    | true =>
      simp only [hag, cond_true] at h
      obtain ⟨ss, hss, h⟩ := peel h
      obtain ⟨g1, g2⟩ := getN_rep hrep.cs hss
      refine ⟨_, _, h, ⟨_, rfl, g1⟩, fun w hw => ?_⟩
      have := loadCells_of (P := P) (hmem w hw) rfl g2
      simp [Instr.loadAt, Instr.sureAddr, loadVar, hti.agg w, hag, hti.size w, this]
    | false =>
      simp only [hag, cond_false] at h
      obtain ⟨y, hy, h⟩ := peel h
      obtain ⟨v, hv, hr⟩ := getC_rep hrep.cs hy
      refine ⟨_, v, h, hr, fun w hw => ?_⟩
      simp [Instr.loadAt, Instr.sureAddr, loadVar, hti.agg w, hag, cell_of (hmem w hw) hv]
  · rename_i n base sz m c
    obtain ⟨b, hb, rfl⟩ := hu
    obtain ⟨B, hB, h⟩ := peel h
    obtain ⟨B', hB', hrep, hid⟩ := hH.nth hB
    rw [hb] at hid
    cases hid
    have hmem : ∀ w, Mem H' R rd rr w → w.heap[B'.b]? = some (.cells B'.cs.toArray B'.t B'.fz) := fun w hw => hw.blk n (hrd n (by simp)) _ hB'
    obtain ⟨s, hs, h⟩ := peel h
    split at h
    · rename_i id k l
      cases hz : Nat.beq (Sh.sz id) sz with
      | false => simp only [hz, cond_false] at h; exact h.elim
      | true =>
        simp only [hz, cond_true] at h
        have hz := Nat.eq_of_beq_eq_true hz
        subst hz
        obtain ⟨hm, h⟩ := h
        have h := h hm
        obtain ⟨hl, c1, c2, c3, hcs, e1, a2, e2⟩ := arr_mid hrep.cs hs
        obtain ⟨sv, v, h1, h2, h3⟩ := el_load hti a2 (by rw [hl]; exact hm) h
        refine ⟨sv, v, h1, h2, fun w hw => ?_⟩
        have hle : m * Sh.sz id + Sh.sz id ≤ c2.length := by
          rw [e2]
          have := Nat.mul_le_mul_right (Sh.sz id) (show m + 1 ≤ k by omega)
          rwa [Nat.add_mul, Nat.one_mul] at this
        rcases h3 with ⟨hag, us, rfl, hus, hul⟩ | ⟨hag, hv⟩
        · have hsz : m * Sh.sz id + c + ti.sz ≤ c2.length := by
            have := congrArg List.length hus
            rw [hul] at this
            simp at this
            have hn : ti.sz ≠ 0 ∨ ti.sz = 0 := by omega
            rcases hn with hn | hn
            · omega
            · have hc : c ≤ Sh.sz id := by
                simp only [hag, cond_true] at h
                cases hle' : Nat.ble (c + ti.sz) (Sh.sz id) with
                | false => simp only [hle', cond_false] at h; exact h.elim
                | true => have := Nat.le_of_ble_eq_true hle'; omega
              omega
          have e : (B'.cs.drop (base + m * Sh.sz id + c)).take ti.sz = us := by
            rw [hcs, List.append_assoc, show base + m * Sh.sz id + c = c1.length + (m * Sh.sz id + c) by omega, List.drop_append, List.drop_of_length_le (by omega), List.nil_append, Nat.add_sub_cancel_left, List.drop_append_of_le_length (by omega), List.take_append_of_le_length (by simp; omega)]
            exact hus
          have := loadCells_of (P := P) (hmem w hw) e hul
          simp [Instr.loadAt, Instr.sureAddr, loadVar, hti.agg w, hag, hti.size w, this]
        · have hv' : B'.cs[base + m * Sh.sz id + c]? = some v := by
            have hlt := (List.getElem?_eq_some_iff.1 hv).1
            rw [hcs, List.append_assoc, show base + m * Sh.sz id + c = c1.length + (m * Sh.sz id + c) by omega, List.getElem?_append_right (by omega), Nat.add_sub_cancel_left, List.getElem?_append_left hlt]
            exact hv
          simp [Instr.loadAt, Instr.sureAddr, loadVar, hti.agg w, hag, cell_of (hmem w hw) hv']
    · exact h.elim
  · rename_i r sz m c
    obtain ⟨row, hrow, rfl⟩ := hu
    obtain ⟨⟨id, l⟩, hx, h⟩ := peel h
    obtain ⟨y, hy, hrep⟩ := hR.nth hx
    rw [hrow] at hy
    cases hy
    have hmem : ∀ w, Mem H' R rd rr w → RowAt w row := fun w hw => hw.row (hrr rfl) _ (List.mem_of_getElem? hrow)
    cases hz : Nat.beq (Sh.sz id) sz with
    | false => simp only [hz, cond_false] at h; exact h.elim
    | true =>
      simp only [hz, cond_true] at h
      have hz := Nat.eq_of_beq_eq_true hz
      subst hz
      obtain ⟨hm, h⟩ := h
      have h := h hm
      obtain ⟨sv, v, h1, h2, h3⟩ := el_load hti (hrep ρ R) hm h
      refine ⟨sv, v, h1, h2, fun w hw => ?_⟩
      rcases h3 with ⟨hag, us, rfl, hus, hul⟩ | ⟨hag, hv⟩
      · have := loadRow_of (P := P) (hmem w hw) hus hul
        rw [← Nat.add_assoc] at this
        simp [Instr.loadAt, Instr.sureAddr, loadVar, hti.agg w, hag, hti.size w, this]
      · have := hmem w hw _ _ hv
        rw [← Nat.add_assoc] at this
        simp [Instr.loadAt, Instr.sureAddr, loadVar, hti.agg w, hag, this]
  · exact h.elim
theorem fieldA_sound {x : Sc} {u : Value} {o s f n : Nat} {fs : Array Field} {fd : Field} (h : (fieldA o x).all Φ) (hu : repS ρ R x u) (hund : P.underlying s = some (.struct fs)) (hf : fs[f]? = some fd) (ho : fd.offset = o)
    (hs : ∀ w, (sizeOf fd.type).run P w = .ok n w) (hn : n ≠ 0) : ∃ sv v, Φ sv ∧ repV ρ R sv v ∧ ∀ w, (Instr.fieldAt s u f).run P w = .ok v w := by
  unfold fieldA at h
  split at h
  · obtain ⟨b, hb, rfl⟩ := hu
    exact ⟨_, _, h, ⟨b, hb, rfl⟩, fun w => Z.Fld.mk (P := P) hund hf ho hs hn b _ w⟩
  · obtain ⟨b, hb, rfl⟩ := hu
    refine ⟨_, _, h, ⟨b, hb, rfl⟩, fun w => ?_⟩
    rw [← Nat.add_assoc]
    exact Z.Fld.mk (P := P) hund hf ho hs hn b _ w
  · obtain ⟨row, hb, rfl⟩ := hu
    refine ⟨_, _, h, ⟨row, hb, rfl⟩, fun w => ?_⟩
    rw [← Nat.add_assoc]
    exact Z.Fld.mk (P := P) hund hf ho hs hn row.b _ w
  · exact h.elim
theorem indexA_sound {t el : Nat} {n : Option Nat} {s : Nat} {i : Int} {k : IntKind} {x : Sc} {u : Value} (h : (indexA n s i x).all Φ) (hu : repS ρ R x u)
    (hT : (∃ m, n = some m ∧ P.underlying t = some (.array m el)) ∨ (n = none ∧ P.underlying t = some (.slice el))) (hs : ∀ w, (sizeOf el).run P w = .ok s w) :
    ∃ sv v, Φ sv ∧ repV ρ R sv v ∧ ∀ w, (Instr.indexAt t u (.int k i)).run P w = .ok v w := by
  unfold indexA at h
  split at h
  · rename_i b o
    obtain ⟨bb, hb, rfl⟩ := hu
    obtain ⟨m, hm, h⟩ := peel h
    subst hm
    rcases hT with ⟨m', e, hT⟩ | ⟨e, _⟩
    · cases e
      obtain ⟨hi, h⟩ := h
      refine ⟨_, _, h hi, ⟨bb, hb, rfl⟩, fun w => ?_⟩
      simp [Instr.indexAt, asIntOf, underlying, hT, Instr.sureAddr, hi.1, hi.2, hs, add_addr]
    · cases e
  · rename_i b base sz eo len cap
    obtain ⟨bb, hb, rfl⟩ := hu
    split at h
    · rcases hT with ⟨m', e, hT⟩ | ⟨_, hT⟩
      · cases e
      cases hz : Nat.beq sz s with
      | false => simp only [hz, cond_false] at h; exact h.elim
      | true =>
        simp only [hz, cond_true] at h
        have hz := Nat.eq_of_beq_eq_true hz
        subst hz
        obtain ⟨hi, h⟩ := h
        refine ⟨_, _, h hi, ⟨bb, hb, rfl⟩, fun w => ?_⟩
        have e : base + eo * sz + i.toNat * sz = base + (eo + i.toNat) * sz + 0 := by rw [Nat.add_mul]; omega
        simp only [← e]
        simp [Instr.indexAt, asIntOf, underlying, hT, hi.1, hi.2, hs, add_addr]
    · exact h.elim
  · rename_i r sz eo len cap A
    obtain ⟨rfl, hA⟩ := hu
    split at h
    · rcases hT with ⟨m', e, hT⟩ | ⟨_, hT⟩
      · cases e
      cases hz : Nat.beq sz s with
      | false => simp only [hz, cond_false] at h; exact h.elim
      | true =>
        simp only [hz, cond_true] at h
        have hz := Nat.eq_of_beq_eq_true hz
        subst hz
        obtain ⟨hi, h⟩ := h
        rcases hA with h0 | ⟨row, hrow, rfl⟩
        · omega
        refine ⟨_, _, h hi, ⟨row, hrow, rfl⟩, fun w => ?_⟩
        have e : row.off + eo * sz + i.toNat * sz = row.off + (eo + i.toNat) * sz + 0 := by rw [Nat.add_mul]; omega
        simp only [← e]
        simp [Instr.indexAt, asIntOf, underlying, hT, hi.1, hi.2, hs, add_addr]
    · exact h.elim
  · exact h.elim
end
end Go.Y
