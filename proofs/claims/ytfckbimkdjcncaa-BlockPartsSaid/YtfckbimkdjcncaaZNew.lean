/- Values and slices that are built. Generic in the program. -/
import Derived.Test.YtfckbimkdjcncaaZEq
set_option linter.unusedSimpArgs false
set_option linter.unusedVariables false
namespace Go.Z
theorem fill_mono {p q : Nat → Option (Nat × Nat)} (hpq : ∀ i x, p i = some x → q i = some x) : ∀ (parts : List (Nat × Value)) (cs out : Array Value), Instr.fill p cs parts = some out → Instr.fill q cs parts = some out
  | [], _, _, h => h
  | (i, v) :: r, cs, out, h => by
    simp only [Instr.fill] at h ⊢
    split at h
    · cases h
    · rename_i o s hp
      rw [hpq _ _ hp]
      simp only
      split at h
      · cases h
      · rename_i hc
        rw [if_neg hc]
        exact fill_mono hpq r _ _ h
theorem flat_drop {α : Type} {f : α → List Value} {n : Nat} (hf : ∀ x, (f x).length = n) : ∀ {l : List α} {i : Nat} (h : i < l.length), ((l.flatMap f).drop (i * n)).take n = f l[i]
  | x :: r, 0, _ => by
    rw [Nat.zero_mul, List.drop_zero, List.flatMap_cons, List.take_append_of_le_length (by rw [hf]; exact Nat.le_refl n), ← hf x, List.take_length]
    rfl
  | x :: r, i + 1, h => by
    have hn : (i + 1) * n = (f x).length + i * n := by rw [hf, Nat.add_mul]; omega
    rw [List.flatMap_cons, hn, List.drop_append, Nat.add_sub_cancel_left, List.drop_of_length_le (by omega), List.nil_append]
    exact flat_drop hf (l := r) (by simpa using h)
theorem flat_slot {α : Type} {f : α → List Value} {n : Nat} (hf : ∀ x, (f x).length = n) {l : List α} {i : Nat} (h : i < l.length) {k : Nat} (hk : k < n) : (l.flatMap f)[i * n + k]? = (f l[i])[k]? := by
  rw [← flat_drop hf h, List.getElem?_take, if_pos hk, List.getElem?_drop]
section
variable {P : Program}
theorem Bld.mkS {t : TypeId} {fs : Array Field} {v : Value} {zero : List Value} {pl : List (Nat × Nat)} (hu : P.underlying t = some (.struct fs)) (hz : Zro P t v) (hv : v.cells = zero.toArray)
    (hpl : ∀ w, (fs.mapM (fun f => do pure (f.offset, ← sizeOf f.type) : Field → Sem (Nat × Nat))).run P w = .ok pl.toArray w) : Bld P t zero pl where
  ok := fun w parts out hf => by
    have hf' : Instr.fill (fun i => pl.toArray[i]?) zero.toArray parts.toList = some out := by simpa using hf
    simp only [Instr.build, Sem.run_bind, hz w, Result.andThen_ok, run_underlying hu, hpl w, hv, hf']
    rfl
theorem Bld.mkA {t e : TypeId} {n sz : Nat} {v : Value} {zero : List Value} {pl : List (Nat × Nat)} (hu : P.underlying t = some (.array n e)) (hz : Zro P t v) (hv : v.cells = zero.toArray) (hs : ∀ w, (sizeOf e).run P w = .ok sz w)
    (hpl : pl = (List.range n).map fun i => (i * sz, sz)) : Bld P t zero pl where
  ok := fun w parts out hf => by
    have hf' := fill_mono (q := fun i => some (i * sz, sz)) (fun i x hx => by
      subst hpl
      simp only [List.getElem?_map, Option.map_eq_some_iff] at hx
      obtain ⟨j, hj, rfl⟩ := hx
      have := List.getElem?_eq_some_iff.1 hj
      obtain ⟨_, hj⟩ := this
      simp only [List.getElem_range] at hj
      rw [hj]) _ _ _ hf
    simp only [Instr.build, Sem.run_bind, hz w, Result.andThen_ok, run_underlying hu, hs w, hv, hf']
    rfl
structure SlcB (P : Program) (t e sz : Nat) (zero : List Value) : Prop where
  und : P.underlying t = some (.slice e)
  size : ∀ w, (sizeOf e).run P w = .ok sz w
  zer : ∃ v, Zro P e v ∧ v.cells = zero.toArray
variable {c : Cx} {ops : Array Oper} {Q : Exit → Act → World → Prop} {N : Nat} {e : Env} {H : List Blk} {rest : List Oper} {d : Nat} {t : TypeId} {p : String} {af : Array Edge}
theorem TL.buildSlice {ty el sz len : Nat} {zero z0 : List Value} {parts : Array (Nat × Operand)} {pl : List (Nat × Nat)} {vs : List (Nat × Value)} {out : List Value} (hB : SlcB P ty el sz zero) (hle : Nat.ble (len * sz) 16777216 = true) (hnz : Nat.beq (len * sz) 0 = false)
    (hz0 : (List.range (len * sz)).map (fun i => zero[i % zero.length]!) = z0) (hpl : pl = (List.range len).map fun i => (i * sz, sz)) (hvs : evp e parts.toList = some vs) (hf : fillL pl z0 vs = some out) (hd : Nat.blt d N = true)
    (h : ∀ b, TL P c ops Q N rest (upd e d (.slice (some ⟨b, 0, none⟩) len len)) (H ++ [⟨b, el, out, (0, 0), true⟩])) : TL P c ops Q N (⟨some d, .buildSlice ty len parts, t, p, af, none⟩ :: rest) e H := fun a w ha hw => by
  have h1 : parts.map (fun (i, x) => (i, a.eval x)) = vs.toArray := Array.toList_inj.1 (by rw [Array.toList_map]; exact ha.evp hvs)
  obtain ⟨v, hzv, hvc⟩ := hB.zer
  have h2 : Instr.fill (fun i => some (i * sz, sz)) z0.toArray vs = some out.toArray := fill_mono (fun i x hx => by
      subst hpl
      simp only [List.getElem?_map, Option.map_eq_some_iff] at hx
      obtain ⟨j, hj, rfl⟩ := hx
      obtain ⟨_, hj⟩ := List.getElem?_eq_some_iff.1 hj
      simp only [List.getElem_range] at hj
      rw [hj]) _ _ _ (fill_of pl vs z0 out hf)
  have h3 : (Array.range (len * sz)).map (fun i => zero.toArray[i % zero.toArray.size]!) = z0.toArray := by
    apply Array.toList_inj.1
    rw [Array.toList_map, Array.toList_range, ← hz0]
    simp
  have hle' : ¬ len * sz > 2 ^ 24 := by have := Nat.le_of_ble_eq_true hle; omega
  have hnz' : ¬ len * sz = 0 := fun h0 => by rw [h0] at hnz; cases hnz
  have hrun : (execOp a.eval ⟨some d, .buildSlice ty len parts, t, p, af, none⟩).run P w = .ok (.value (.slice (some ⟨w.heap.size, 0, none⟩) len len)) (w.alloc (.cells out.toArray el)) := by
    simp only [execOp, h1, Instr.buildSlice, Sem.run_bind, run_underlying hB.und, Result.andThen_ok, hB.size w, if_neg hle', if_neg hnz', hzv w, hvc, Sem.run_pure, h3, h2]
    simp [newRow]
  refine wpList_plain rfl fun K hK => ?_
  unfold Oper.wp
  rw [hrun, Oper.upon_value]
  exact hK _ _ (h _ _ _ (ha.put _ hd) (hw.alloc el out (0, 0)))
theorem TL.indexN {x y : Operand} {ty n el sz : Nat} {k : IntKind} {m : Int} {cs vs : List Value} (hx : ev e x = some (.agg cs.toArray)) (hy : ev e y = some (.int k m)) (hT : ArrE P ty n el) (hL : Agg P el sz) (hm : 0 ≤ m ∧ m < n) (hv : (cs.drop (m.toNat * sz)).take sz = vs) (hd : Nat.blt d N = true)
    (h : TL P c ops Q N rest (upd e d (.agg vs.toArray)) H) : TL P c ops Q N (⟨some d, .index ty x y, t, p, af, none⟩ :: rest) e H :=
  TL.value' hd (fun a w ha _ => by
    simp [execOp, ha.ev hx, ha.ev hy, Instr.index, asIntOf, underlying, hT.ok, hm.1, hm.2, part, (hL w).1, (hL w).2, ← hv, List.take_drop]) h
end
end Go.Z
