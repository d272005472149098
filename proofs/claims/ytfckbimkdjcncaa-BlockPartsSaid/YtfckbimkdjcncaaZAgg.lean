/- Aggregates, guards, cuts. Generic in the program. -/
import Derived.Test.YtfckbimkdjcncaaZCall
set_option linter.unusedSimpArgs false
set_option linter.unusedVariables false
namespace Go.Z
section
variable {P : Program} {c : Cx} {ops : Array Oper} {Q : Exit → Act → World → Prop} {N : Nat} {e : Env} {H : List Blk} {rest : List Oper} {d : Nat} {t : TypeId} {p : String} {af : Array Edge}
/-! ### Guards -/
theorem yielded_of (ops : Array Oper) {a : Act} {j s : Nat} {b : Bool} (hj : (ops[j]?).bind (·.dst) = some s) (ha : Fits N a e) (hs : lk e s = some (.bool b)) : yielded ops a.tmps j = some b := by
  have h1 := ha.at_ s _ hs
  unfold yielded
  rw [hj]
  have h2 : a.tmps[s]? = some (.bool b) := by
    cases h3 : a.tmps[s]? with
    | none => simp [h3, undef] at h1
    | some v => simp [h3] at h1; rw [h1]
  simp [h2]
theorem TL.guardY {dst : Option Nat} {op : Op} {j s : Nat} {want b : Bool} (hj : (ops[j]?).bind (·.dst) = some s) (hs : lk e s = some (.bool b)) (hb : b = want) (h : TL P c ops Q N (⟨dst, op, t, p, af, none⟩ :: rest) e H) :
    TL P c ops Q N (⟨dst, op, t, p, af, some (j, want)⟩ :: rest) e H := fun a w ha hw => by
  subst hb
  have h1 := h a w ha hw
  have h2 : Region.wanted ⟨dst, op, t, p, af, some (j, b)⟩ (yielded ops a.tmps) = true := by simp [Region.wanted, yielded_of ops hj ha hs]
  have h3 : Region.wanted ⟨dst, op, t, p, af, none⟩ (yielded ops a.tmps) = true := rfl
  unfold wpList at h1 ⊢
  rw [if_pos h3] at h1
  rw [if_pos h2]
  exact h1
theorem TL.guardN {dst : Option Nat} {op : Op} {j s : Nat} {want b val : Bool} (hj : (ops[j]?).bind (·.dst) = some s) (hs : lk e s = some (.bool b)) (hv : b = val) (hb : (val == want) = false) (hd : ∀ t, dst = some t → Nat.blt t N = true) (h : TL P c ops Q N rest (updO e dst undef) H) :
    TL P c ops Q N (⟨dst, op, t, p, af, some (j, want)⟩ :: rest) e H := fun a w ha hw => by
  have h2 : Region.wanted ⟨dst, op, t, p, af, some (j, want)⟩ (yielded ops a.tmps) = false := by
    have : b ≠ want := by subst hv; simpa using hb
    simp [Region.wanted, yielded_of ops hj ha hs, this]
  unfold wpList
  rw [if_neg (by simp [h2])]
  exact h _ _ (ha.putO undef hd) hw
/-- the operation that it hangs on was passed over itself -/
theorem TL.guardU {dst : Option Nat} {op : Op} {j s : Nat} {want : Bool} (hj : (ops[j]?).bind (·.dst) = some s) (hs : lk e s = some undef) (hd : ∀ t, dst = some t → Nat.blt t N = true) (h : TL P c ops Q N rest (updO e dst undef) H) :
    TL P c ops Q N (⟨dst, op, t, p, af, some (j, want)⟩ :: rest) e H := fun a w ha hw => by
  have h1 := ha.at_ s _ hs
  have h2 : Region.wanted ⟨dst, op, t, p, af, some (j, want)⟩ (yielded ops a.tmps) = false := by
    have h3 : yielded ops a.tmps j = none := by
      unfold yielded
      rw [hj]
      cases h4 : a.tmps[s]? with
      | none => simp [h4]
      | some v =>
        simp only [h4, Array.getD_eq_getD_getElem?, Option.getD_some] at h1
        simp [h4, h1, undef]
    simp [Region.wanted, h3]
  unfold wpList
  rw [if_neg (by simp [h2])]
  exact h _ _ (ha.putO undef hd) hw
/-! ### Cuts -/
def AtE (c : Cx) (N : Nat) (e : Env) (H : List Blk) : Act → World → Prop := fun a w => Fits N a e ∧ Good c w H
/-- x, and behind it y, with just these slots and blocks between -/
theorem TC.cut {x y : Code} (e' : Env) (H' : List Blk) (hx : TC P c (Exit.then (AtE c N e' H') Q) N x e H) (hy : TC P c Q N y e' H') : TC P c Q N (.seq x y) e H := fun a w ha hw =>
  wp_seq (wp_mono (hx a w ha hw) fun ex a' w' hq => by
    cases ex with
    | normal => exact hy a' w' hq.1 hq.2
    | _ => exact hq)
/-- the same, where what is between hangs on something -/
theorem TC.cutX {σ : Type} {x y : Code} (E : σ → Env) (HH : σ → List Blk) (J : σ → Prop) (hx : TC P c (Exit.then (AtSome c N E HH J) Q) N x e H) (hy : ∀ s, J s → TC P c Q N y (E s) (HH s)) : TC P c Q N (.seq x y) e H := fun a w ha hw =>
  wp_seq (wp_mono (hx a w ha hw) fun ex a' w' hq => by
    cases ex with
    | normal =>
      obtain ⟨s, hJ, h1, h2⟩ := hq
      exact hy s hJ a' w' h1 h2
    | _ => exact hq)
theorem TE.hit {e' : Env} {H' : List Blk} (ks : List Nat) (he : sel e ks = some e') (hH : H = H') : TE c (Exit.then (AtE c N e' H') Q) N .normal e H :=
  fun _ _ ha hw => ⟨ha.weaken (sel_lk he), hH ▸ hw⟩
theorem TL.hit {e' : Env} {H' : List Blk} (ks : List Nat) (he : sel e ks = some e') (hH : H = H') : TL P c ops (Exit.then (AtE c N e' H') Q) N [] e H :=
  fun _ _ ha hw => ⟨ha.weaken (sel_lk he), hH ▸ hw⟩
theorem TC.skipN {K : Act → World → Prop} (h : TE c (Exit.then K Q) N .normal e H) : TC P c (Exit.then K Q) N .skip e H := TC.skipE h
/-! ### A block's exits -/
theorem TE.inN {id : Nat} (h : TE c Q N .normal e H) : TE c (Exit.inBlock id Q) N .normal e H := h
theorem TE.inExit {id : Nat} (h : TE c Q N .normal e H) : TE c (Exit.inBlock id Q) N (.exit id) e H := fun a w ha hw => by
  have := h a w ha hw
  simpa [Exit.inBlock] using this
theorem TE.inOther {id id' : Nat} (hne : Nat.beq id' id = false) (h : TE c Q N (.exit id') e H) : TE c (Exit.inBlock id Q) N (.exit id') e H := fun a w ha hw => by
  have := h a w ha hw
  have hne' : id' ≠ id := fun he => by subst he; simp at hne
  simpa [Exit.inBlock, hne'] using this
theorem TE.thenExit {K : Act → World → Prop} {id : Nat} (h : TE c Q N (.exit id) e H) : TE c (Exit.then K Q) N (.exit id) e H := h
theorem TE.thenRet {K : Act → World → Prop} (h : TE c Q N .ret e H) : TE c (Exit.then K Q) N .ret e H := h
theorem TE.inRet {id : Nat} (h : TE c Q N .ret e H) : TE c (Exit.inBlock id Q) N .ret e H := h
/-! ### Values with parts -/
def vcells : Value → List Value
  | .agg cs => cs.toList
  | v => [v]
theorem vcells_eq (v : Value) : v.cells = (vcells v).toArray := by cases v <;> simp [Value.cells, vcells]
def fillL (pl : List (Nat × Nat)) (cs : List Value) : List (Nat × Value) → Option (List Value)
  | [] => some cs
  | (i, v) :: r => match pl[i]? with
    | some (o, s) => bif Nat.beq (vcells v).length s && Nat.ble (o + s) cs.length then fillL pl (setL cs o (vcells v)) r else none
    | none => none
theorem fold_setL : ∀ (vs : List Value) (cs : Array Value) (o k : Nat), ((vs.zipIdx k).foldl (fun cs (x : Value × Nat) => cs.setIfInBounds (o + x.2) x.1) cs).toList = setL cs.toList (o + k) vs
  | [], _, _, _ => rfl
  | v :: r, cs, o, k => by
    rw [List.zipIdx_cons, List.foldl_cons, fold_setL r _ o (k + 1), setL]
    simp [Nat.add_assoc]
theorem fill_of (pl : List (Nat × Nat)) : ∀ (parts : List (Nat × Value)) (cs out : List Value), fillL pl cs parts = some out → Instr.fill (fun i => pl[i]?) cs.toArray parts = some out.toArray
  | [], cs, out, h => by simp only [fillL, Option.some.injEq] at h; subst h; rfl
  | (i, v) :: r, cs, out, h => by
    simp only [fillL] at h
    split at h
    · rename_i o s hp
      cases hb : (Nat.beq (vcells v).length s && Nat.ble (o + s) cs.length) with
      | false => simp [hb] at h
      | true =>
        simp only [hb, cond_true] at h
        simp only [Bool.and_eq_true] at hb
        have h1 : (vcells v).length = s := Nat.eq_of_beq_eq_true hb.1
        have h2 : o + s ≤ cs.length := by simpa using hb.2
        have ih := fill_of pl r _ _ h
        have e : (v.cells.zipIdx.foldl (fun cs (x : Value × Nat) => cs.setIfInBounds (o + x.2) x.1) cs.toArray) = (setL cs o (vcells v)).toArray := by
          apply Array.toList_inj.1
          rw [vcells_eq]
          have := fold_setL (vcells v) cs.toArray o 0
          simpa using this
        simp only [Instr.fill, hp]
        have hs : v.cells.size = s := by rw [vcells_eq]; simpa using h1
        have hc : (decide (v.cells.size ≠ s) || decide (o + v.cells.size > cs.toArray.size)) = false := by
          simp [hs]; omega
        rw [if_neg (by simp only [hc]; simp)]
        rw [← ih, ← e]
    · cases h
structure Bld (P : Program) (t : TypeId) (zero : List Value) (pl : List (Nat × Nat)) : Prop where
  ok : ∀ w (parts : Array (Nat × Value)) out, Instr.fill (fun i => pl[i]?) zero.toArray parts.toList = some out → (Instr.build t parts).run P w = .ok (.agg out) w
def evp (e : Env) : List (Nat × Operand) → Option (List (Nat × Value))
  | [] => some []
  | (i, x) :: r => match ev e x, evp e r with
    | some v, some vs => some ((i, v) :: vs)
    | _, _ => none
theorem Fits.evp {a : Act} (h : Fits N a e) : ∀ {xs : List (Nat × Operand)} {vs : List (Nat × Value)}, evp e xs = some vs → xs.map (fun (i, x) => (i, a.eval x)) = vs
  | [], vs, hx => by simpa [Z.evp] using hx
  | (i, x) :: r, vs, hx => by
    simp only [Z.evp] at hx
    split at hx
    · rename_i v us h1 h2
      simp only [Option.some.injEq] at hx
      subst hx
      simp [h.ev h1, h.evp h2]
    · cases hx
theorem TL.build {ty : TypeId} {parts : Array (Nat × Operand)} {zero : List Value} {pl : List (Nat × Nat)} {vs : List (Nat × Value)} {out : List Value} (hB : Bld P ty zero pl) (hvs : evp e parts.toList = some vs) (hf : fillL pl zero vs = some out) (hd : Nat.blt d N = true)
    (h : TL P c ops Q N rest (upd e d (.agg out.toArray)) H) : TL P c ops Q N (⟨some d, .build ty parts, t, p, af, none⟩ :: rest) e H :=
  TL.value' hd (fun a w ha _ => by
    have h1 : parts.map (fun (i, x) => (i, a.eval x)) = vs.toArray := Array.toList_inj.1 (by rw [Array.toList_map]; exact ha.evp hvs)
    have h2 := hB.ok w vs.toArray _ (fill_of pl vs zero out hf)
    simp [execOp, h1, h2]) h
/-- a part of a value: one cell, several -/
def PartS (P : Program) (t : TypeId) (f : Nat) (ft : TypeId) (off : Nat) : Prop := ∃ fs fd, P.underlying t = some (.struct fs) ∧ fs[f]? = some fd ∧ fd.type = ft ∧ fd.offset = off
theorem TL.field1 {x : Operand} {ty f ft off : Nat} {cs : List Value} {v : Value} (hx : ev e x = some (.agg cs.toArray)) (hp : PartS P ty f ft off) (hL : One P ft) (hv : cs[off]? = some v) (hd : Nat.blt d N = true)
    (h : TL P c ops Q N rest (upd e d v) H) : TL P c ops Q N (⟨some d, .field ty x f, t, p, af, none⟩ :: rest) e H :=
  TL.value' hd (fun a w ha _ => by
    obtain ⟨fs, fd, hu, hf, rfl, rfl⟩ := hp
    simp [execOp, ha.ev hx, Instr.field, underlying, hu, hf, asAgg, part, (hL w).1, hv]) h
theorem TL.fieldN {x : Operand} {ty f ft off n : Nat} {cs vs : List Value} (hx : ev e x = some (.agg cs.toArray)) (hp : PartS P ty f ft off) (hL : Agg P ft n) (hv : (cs.drop off).take n = vs) (hd : Nat.blt d N = true)
    (h : TL P c ops Q N rest (upd e d (.agg vs.toArray)) H) : TL P c ops Q N (⟨some d, .field ty x f, t, p, af, none⟩ :: rest) e H :=
  TL.value' hd (fun a w ha _ => by
    obtain ⟨fs, fd, hu, hf, rfl, rfl⟩ := hp
    simp [execOp, ha.ev hx, Instr.field, underlying, hu, hf, asAgg, part, (hL w).1, (hL w).2, hv]) h
structure ArrE (P : Program) (t : TypeId) (n el : Nat) : Prop where
  ok : P.underlying t = some (.array n el)
theorem TL.index1 {x y : Operand} {ty n el : Nat} {k : IntKind} {m : Int} {cs : List Value} {v : Value} (hx : ev e x = some (.agg cs.toArray)) (hy : ev e y = some (.int k m)) (hT : ArrE P ty n el) (hL : One P el) (hm : 0 ≤ m ∧ m < n) (hv : cs[m.toNat]? = some v) (hd : Nat.blt d N = true)
    (h : TL P c ops Q N rest (upd e d v) H) : TL P c ops Q N (⟨some d, .index ty x y, t, p, af, none⟩ :: rest) e H :=
  TL.value' hd (fun a w ha _ => by
    simp [execOp, ha.ev hx, ha.ev hy, Instr.index, asIntOf, underlying, hT.ok, hm.1, hm.2, part, (hL w).1, (hL w).2, hv]) h
theorem TL.indexStr {x y : Operand} {ty : Nat} {k : IntKind} {m : Int} {s : ByteArray} {u : UInt8} (hx : ev e x = some (.string s)) (hy : ev e y = some (.int k m)) (hT : P.underlying ty = some .string) (hm : 0 ≤ m) (hv : s[m.toNat]? = some u) (hd : Nat.blt d N = true)
    (h : TL P c ops Q N rest (upd e d (.int .u8 u.toNat)) H) : TL P c ops Q N (⟨some d, .index ty x y, t, p, af, none⟩ :: rest) e H :=
  TL.value' hd (fun a w ha _ => by
    simp [execOp, ha.ev hx, ha.ev hy, Instr.index, asIntOf, underlying, hT, hm, hv]) h
end
end Go.Z
