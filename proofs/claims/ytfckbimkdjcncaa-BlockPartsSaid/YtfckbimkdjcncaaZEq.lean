/- Equality of values that are rows of numbers, truths and texts. Generic in the program. -/
import Derived.Test.YtfckbimkdjcncaaZAux
import Derived.Laws.StructEq
set_option linter.unusedSimpArgs false
set_option linter.unusedVariables false
namespace Go.Z
inductive Kd where
  | i (k : IntKind)
  | b
  | s
def Kd.fits : Kd → Value → Prop
  | .i k, v => ∃ n, v = .int k n
  | .b, v => ∃ x, v = .bool x
  | .s, v => ∃ x, v = .string x
def FitsK : List Kd → List Value → Prop
  | [], [] => True
  | k :: ks, v :: vs => k.fits v ∧ FitsK ks vs
  | _, _ => False
theorem FitsK.len : ∀ {ks : List Kd} {vs : List Value}, FitsK ks vs → vs.length = ks.length
  | [], [], _ => rfl
  | _ :: _, _ :: _, h => by rw [List.length_cons, List.length_cons, FitsK.len h.2]
  | [], _ :: _, h => h.elim
  | _ :: _, [], h => h.elim
theorem FitsK.append : ∀ {ks ks' : List Kd} {vs : List Value}, FitsK (ks ++ ks') vs → FitsK ks (vs.take ks.length) ∧ FitsK ks' (vs.drop ks.length)
  | [], _, _, h => ⟨trivial, h⟩
  | _ :: _, _, [], h => h.elim
  | _ :: _, _, _ :: _, h => ⟨⟨h.1, (FitsK.append h.2).1⟩, (FitsK.append h.2).2⟩
theorem FitsK.ints {k : IntKind} : ∀ (r : List Int), FitsK (List.replicate r.length (.i k)) (r.map (Value.int k))
  | [] => trivial
  | x :: r => ⟨⟨x, rfl⟩, FitsK.ints r⟩
section
variable {P : Program}
/-- one part's equality -/
def PartEq (P : Program) (d : Nat) (t : TypeId) (ks : List Kd) : Prop :=
  ∀ (w : World) (xs ys : List Value) (o : Nat), FitsK ks ((xs.drop o).take ks.length) → FitsK ks ((ys.drop o).take ks.length) →
    ∃ a a' b, (part t xs.toArray o).run P w = .ok a w ∧ (part t ys.toArray o).run P w = .ok a' w ∧ (Op.equalIn d t a a').run P w = .ok b w ∧ (b = true ↔ (xs.drop o).take ks.length = (ys.drop o).take ks.length)
/-- a whole one's -/
def AggEq (P : Program) (d : Nat) (t : TypeId) (ks : List Kd) : Prop :=
  ∀ (w : World) (xs ys : List Value), FitsK ks xs → FitsK ks ys → ∃ b, (Op.equalIn d t (.agg xs.toArray) (.agg ys.toArray)).run P w = .ok b w ∧ (b = true ↔ xs = ys)
theorem take1 {xs : List Value} {o : Nat} {k : Kd} (h : FitsK [k] ((xs.drop o).take 1)) : ∃ v, xs[o]? = some v ∧ (xs.drop o).take 1 = [v] ∧ k.fits v := by
  cases hx : xs.drop o with
  | nil => rw [hx] at h; exact h.elim
  | cons v r =>
    rw [hx] at h
    have h0 : (xs.drop o)[0]? = some v := by rw [hx]; rfl
    rw [List.getElem?_drop] at h0
    exact ⟨v, h0, rfl, h.1⟩
theorem run_part1 {t : TypeId} (hL : One P t) {w : World} {xs : List Value} {o : Nat} {v : Value} (h : xs[o]? = some v) : (part t xs.toArray o).run P w = .ok v w := by
  simp [part, (hL w).1, h]
theorem PartEq.int {d : Nat} {t : TypeId} {k k' : IntKind} (hL : One P t) (hu : P.underlying t = some (.int k')) : PartEq P (d + 1) t [.i k] := fun w xs ys o hx hy => by
  obtain ⟨v, h1, h2, n, rfl⟩ := take1 hx
  obtain ⟨v', h1', h2', n', rfl⟩ := take1 hy
  refine ⟨_, _, _, run_part1 hL h1, run_part1 hL h1', run_equalIn_int w d t k k' n n' hu, ?_⟩
  show _ ↔ (xs.drop o).take 1 = (ys.drop o).take 1
  rw [h2, h2']
  simp
theorem PartEq.bool {d : Nat} {t : TypeId} (hL : One P t) (hu : P.underlying t = some .bool) : PartEq P (d + 1) t [.b] := fun w xs ys o hx hy => by
  obtain ⟨v, h1, h2, n, rfl⟩ := take1 hx
  obtain ⟨v', h1', h2', n', rfl⟩ := take1 hy
  refine ⟨_, _, _, run_part1 hL h1, run_part1 hL h1', run_equalIn_bool' w d t n n' hu, ?_⟩
  show _ ↔ (xs.drop o).take 1 = (ys.drop o).take 1
  rw [h2, h2']
  simp
theorem PartEq.agg {d : Nat} {t : TypeId} {ks : List Kd} (hL : Agg P t ks.length) (h : AggEq P d t ks) : PartEq P d t ks := fun w xs ys o hx hy => by
  have hp : ∀ zs : List Value, (part t zs.toArray o).run P w = .ok (.agg ((zs.drop o).take ks.length).toArray) w := fun zs => by
    simp [part, (hL w).1, (hL w).2, List.take_drop]
  obtain ⟨b, hb, hb'⟩ := h w _ _ hx hy
  exact ⟨_, _, b, hp xs, hp ys, hb, hb'⟩
inductive FlatF (P : Program) (d : Nat) : List Field → Nat → List Kd → Prop
  | nil {o : Nat} : FlatF P d [] o []
  | cons {f : Field} {fs : List Field} {o : Nat} {ks ks' : List Kd} (hn : f.name ≠ "_") (ho : f.offset = o) (hp : PartEq P d f.type ks) (hr : FlatF P d fs (o + ks.length) ks') : FlatF P d (f :: fs) o (ks ++ ks')
theorem FlatF.run {d : Nat} {fs : List Field} {o : Nat} {ks : List Kd} (h : FlatF P d fs o ks) : ∀ (w : World) (xs ys : List Value), FitsK ks (xs.drop o) → FitsK ks (ys.drop o) →
    ∃ b, (Op.eqFields d xs.toArray ys.toArray fs).run P w = .ok b w ∧ (b = true ↔ xs.drop o = ys.drop o) := by
  induction h with
  | nil =>
    intro w xs ys hx hy
    refine ⟨true, by simp [Op.eqFields], ?_⟩
    have h1 := hx.len
    have h2 := hy.len
    simp only [List.length_nil] at h1 h2
    rw [List.length_eq_zero_iff.1 h1, List.length_eq_zero_iff.1 h2]
    simp
  | @cons f fs o ks ks' hn ho hp _ ih =>
    intro w xs ys hx hy
    obtain ⟨hx1, hx2⟩ := hx.append
    obtain ⟨hy1, hy2⟩ := hy.append
    obtain ⟨a, a', b, h1, h2, h3, h4⟩ := hp w xs ys o hx1 hy1
    rw [List.drop_drop] at hx2 hy2
    obtain ⟨b', h5, h6⟩ := ih w xs ys hx2 hy2
    have hsplit : ∀ zs zs' : List Value, zs = zs' ↔ zs.take ks.length = zs'.take ks.length ∧ zs.drop ks.length = zs'.drop ks.length := fun zs zs' =>
      ⟨fun h => by rw [h]; exact ⟨rfl, rfl⟩, fun h => by rw [← List.take_append_drop ks.length zs, ← List.take_append_drop ks.length zs', h.1, h.2]⟩
    rw [hsplit (xs.drop o) (ys.drop o), List.drop_drop, List.drop_drop]
    subst ho
    cases b with
    | true =>
      refine ⟨b', by simp [Op.eqFields, hn, h1, h2, h3, h5], ?_⟩
      rw [h6]
      exact ⟨fun h => ⟨h4.1 rfl, h⟩, fun h => h.2⟩
    | false =>
      refine ⟨false, by simp [Op.eqFields, hn, h1, h2, h3], ?_⟩
      exact ⟨fun h => (by cases h), fun h => h4.2 h.1⟩
theorem AggEq.struct {d : Nat} {t : TypeId} {ks : List Kd} {fs : Array Field} (hu : P.underlying t = some (.struct fs)) (hs : P.stoodInHeld t = false) (hf : FlatF P d fs.toList 0 ks) : AggEq P (d + 1) t ks := fun w xs ys hx hy => by
  have hfo : P.fieldsOf t = fs := by simp [Program.fieldsOf, hu]
  rw [run_equalIn_struct w d t _ _ (by rw [hfo]; exact hu) hs, hfo]
  exact hf.run w xs ys hx hy
def eqElems (d : Nat) (e : TypeId) (n : Nat) (xs ys : Array Value) : List Nat → Sem Bool
  | [] => pure true
  | i :: r => do
    let a ← part e xs (i * n)
    let b ← part e ys (i * n)
    let q ← Op.equalIn d e a b
    if (!q) = true then pure false else eqElems d e n xs ys r
theorem run_equalIn_array {d : Nat} {t e : TypeId} {len n : Nat} (w : World) (xs ys : Array Value) (hu : P.underlying t = some (.array len e)) (hn : ∀ w, (sizeOf e).run P w = .ok n w) :
    (Op.equalIn (d + 1) t (.agg xs) (.agg ys)).run P w = (eqElems d e n xs ys (List.range' 0 len)).run P w := by
  simp only [Op.equalIn, Sem.run_bind, run_underlying hu, Result.andThen_ok, hn]
  rw [Std.Legacy.Range.forIn_eq_forIn_range']
  simp only [Std.Legacy.Range.size, Nat.sub_zero, Nat.add_sub_cancel, Nat.div_one]
  generalize List.range' 0 len 1 = l
  clear hu
  induction l generalizing w with
  | nil => simp [eqElems]
  | cons i l ih =>
    simp only [List.forIn_cons, eqElems, Sem.run_bind, Sem.run_ite]
    generalize (part e xs (i * n)).run P w = r1
    cases r1 with
    | ok a w1 =>
      simp only [Result.andThen_ok]
      generalize (part e ys (i * n)).run P w1 = r2
      cases r2 with
      | ok b w2 =>
        simp only [Result.andThen_ok]
        generalize (Op.equalIn d e a b).run P w2 = r3
        cases r3 with
        | ok r w3 =>
          cases r
          · simp only [Result.andThen_ok, Bool.not_false, if_true, Sem.run_pure]
          · simp only [Result.andThen_ok, Bool.not_true, Bool.false_eq_true, if_false, Sem.run_pure]
            exact ih w3
        | halt x w3 => simp [Result.andThen]
      | halt x w2 => simp [Result.andThen]
    | halt x w1 => simp [Result.andThen]
theorem AggEq.arr {d : Nat} {t e : TypeId} {ks : List Kd} {len : Nat} (hu : P.underlying t = some (.array len e)) (hn : ∀ w, (sizeOf e).run P w = .ok ks.length w) (hp : PartEq P d e ks) :
    AggEq P (d + 1) t (List.replicate len ks).flatten := fun w xs ys hx hy => by
  rw [run_equalIn_array w _ _ hu hn]
  have key : ∀ (m i : Nat) (w : World), FitsK (List.replicate m ks).flatten (xs.drop (i * ks.length)) → FitsK (List.replicate m ks).flatten (ys.drop (i * ks.length)) →
      ∃ b, (eqElems d e ks.length xs.toArray ys.toArray (List.range' i m)).run P w = .ok b w ∧ (b = true ↔ xs.drop (i * ks.length) = ys.drop (i * ks.length)) := by
    intro m
    induction m with
    | zero =>
      intro i w hx hy
      refine ⟨true, by simp [eqElems], ?_⟩
      have h1 := hx.len
      have h2 := hy.len
      simp only [List.replicate_zero, List.flatten_nil, List.length_nil] at h1 h2
      rw [List.length_eq_zero_iff.1 h1, List.length_eq_zero_iff.1 h2]
      simp
    | succ m ih =>
      intro i w hx hy
      rw [List.replicate_succ, List.flatten_cons] at hx hy
      obtain ⟨hx1, hx2⟩ := hx.append
      obtain ⟨hy1, hy2⟩ := hy.append
      obtain ⟨a, a', b, h1, h2, h3, h4⟩ := hp w xs ys _ hx1 hy1
      have hi : i * ks.length + ks.length = (i + 1) * ks.length := by rw [Nat.add_mul, Nat.one_mul]
      rw [List.drop_drop, hi] at hx2 hy2
      obtain ⟨b', h5, h6⟩ := ih (i + 1) w hx2 hy2
      have hsplit : ∀ zs zs' : List Value, zs = zs' ↔ zs.take ks.length = zs'.take ks.length ∧ zs.drop ks.length = zs'.drop ks.length := fun zs zs' =>
        ⟨fun h => by rw [h]; exact ⟨rfl, rfl⟩, fun h => by rw [← List.take_append_drop ks.length zs, ← List.take_append_drop ks.length zs', h.1, h.2]⟩
      rw [hsplit (xs.drop _) (ys.drop _), List.drop_drop, List.drop_drop, hi, List.range'_succ]
      cases b with
      | true =>
        refine ⟨b', by simp [eqElems, h1, h2, h3, h5], ?_⟩
        rw [h6]
        exact ⟨fun h => ⟨h4.1 rfl, h⟩, fun h => h.2⟩
      | false =>
        refine ⟨false, by simp [eqElems, h1, h2, h3], ?_⟩
        exact ⟨fun h => (by cases h), fun h => h4.2 h.1⟩
  have := key len 0 w (by simpa using hx) (by simpa using hy)
  simpa using this
end
section
variable {P : Program} {c : Cx} {ops : Array Oper} {Q : Exit → Act → World → Prop} {N : Nat} {e : Env} {H : List Blk} {rest : List Oper} {d : Nat} {t : TypeId} {p : String} {af : Array Edge} {yt : TypeId}
theorem TL.eqlAgg (pr : Prop) [Decidable pr] {x y : Operand} {ty : TypeId} {xs ys : List Value} {ks : List Kd} (hx : ev e x = some (.agg xs.toArray)) (hy : ev e y = some (.agg ys.toArray)) (hE : AggEq P 10000 ty ks) (hm : P.eqGuardType P.depth ty = false)
    (hfx : FitsK ks xs) (hfy : FitsK ks ys) (hp : xs = ys ↔ pr) (hd : Nat.blt d N = true)
    (h : TL P c ops Q N rest (upd e d (.bool (decide pr))) H) : TL P c ops Q N (⟨some d, .binOp .eql ty x y yt, t, p, af, none⟩ :: rest) e H :=
  TL.value' hd (fun a w ha _ => by
    obtain ⟨b, hb, hb'⟩ := hE w xs ys hfx hfy
    have : b = decide pr := by rw [Bool.eq_iff_iff, decide_eq_true_eq, hb', hp]
    simp [execOp, ha.ev hx, ha.ev hy, run_eqGuard_agg w _ _ _ _ _ _ hm, run_eql_struct, hb, this]) h
theorem TL.neqAgg (pr : Prop) [Decidable pr] {x y : Operand} {ty : TypeId} {xs ys : List Value} {ks : List Kd} (hx : ev e x = some (.agg xs.toArray)) (hy : ev e y = some (.agg ys.toArray)) (hE : AggEq P 10000 ty ks) (hm : P.eqGuardType P.depth ty = false)
    (hfx : FitsK ks xs) (hfy : FitsK ks ys) (hp : xs = ys ↔ pr) (hd : Nat.blt d N = true)
    (h : TL P c ops Q N rest (upd e d (.bool (!decide pr))) H) : TL P c ops Q N (⟨some d, .binOp .neq ty x y yt, t, p, af, none⟩ :: rest) e H :=
  TL.value' hd (fun a w ha _ => by
    obtain ⟨b, hb, hb'⟩ := hE w xs ys hfx hfy
    have : b = decide pr := by rw [Bool.eq_iff_iff, decide_eq_true_eq, hb', hp]
    simp [execOp, ha.ev hx, ha.ev hy, run_eqGuard_agg w _ _ _ _ _ _ hm, run_neq_struct, hb, this]) h
end
end Go.Z
