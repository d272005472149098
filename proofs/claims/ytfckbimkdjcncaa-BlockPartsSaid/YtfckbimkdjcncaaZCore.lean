/- A layer over the walk's calculus: known slots, known blocks, one law an operation. Generic in the program. -/
import Derived.Calls
import Derived.Tactics
import Derived.Orders
set_option linter.unusedSimpArgs false
set_option linter.unusedVariables false
namespace Go.Z

/-! ### Slots -/
abbrev Env := List (Nat × Value)
def lk : Env → Nat → Option Value
  | [], _ => none
  | (k, v) :: r, t => bif Nat.beq k t then some v else lk r t
def upd (e : Env) (d : Nat) (v : Value) : Env := (d, v) :: e
def updO (e : Env) (d : Option Nat) (v : Value) : Env := match d with | some d => upd e d v | none => e
def ev (e : Env) : Operand → Option Value
  | .tmp t => lk e t
  | .const v => some v
  | .global g => some (.pointer (some ⟨g, 0, none⟩))
  | .func f => some (.func (.func f) #[] #[])
def evs (e : Env) : List Operand → Option (List Value)
  | [] => some []
  | x :: r => match ev e x, evs e r with
    | some v, some vs => some (v :: vs)
    | _, _ => none
/-- which slots of e are kept -/
def sel (e : Env) : List Nat → Option Env
  | [] => some []
  | k :: r => match lk e k, sel e r with
    | some v, some es => some ((k, v) :: es)
    | _, _ => none
theorem lk_upd_eq (e : Env) (d : Nat) (v : Value) : lk (upd e d v) d = some v := by
  simp [upd, lk]
theorem lk_upd_ne (e : Env) {d t : Nat} (v : Value) (h : d ≠ t) : lk (upd e d v) t = lk e t := by
  have : Nat.beq d t = false := by
    cases h3 : Nat.beq d t with
    | true => exact absurd (Nat.eq_of_beq_eq_true h3) h
    | false => rfl
  simp [upd, lk, this]

structure Fits (N : Nat) (a : Act) (e : Env) : Prop where
  size : a.tmps.size = N
  defers : a.defers = []
  at_ : ∀ t v, lk e t = some v → a.tmps.getD t undef = v
theorem Fits.ev {N : Nat} {a : Act} {e : Env} (h : Fits N a e) {x : Operand} {v : Value} (hx : ev e x = some v) : a.eval x = v := by
  cases x with
  | tmp t => exact h.at_ t v hx
  | const u => simpa [Z.ev, Act.eval] using hx
  | global g => simpa [Z.ev, Act.eval] using hx
  | func f => simpa [Z.ev, Act.eval] using hx
theorem Fits.evs {N : Nat} {a : Act} {e : Env} (h : Fits N a e) : ∀ {xs : List Operand} {vs : List Value}, evs e xs = some vs → xs.map a.eval = vs
  | [], vs, hx => by simpa [Z.evs] using hx
  | x :: r, vs, hx => by
    simp only [Z.evs] at hx
    split at hx
    · rename_i v us h1 h2
      simp only [Option.some.injEq] at hx
      subst hx
      simp [h.ev h1, h.evs h2]
    · cases hx
theorem Fits.put {N : Nat} {a : Act} {e : Env} (h : Fits N a e) {d : Nat} (v : Value) (hd : Nat.blt d N = true) : Fits N (a.put (some d) v) (upd e d v) := by
  refine ⟨by simp [Act.put, h.size], h.defers, fun t u ht => ?_⟩
  have hdN : d < N := by simpa [Nat.blt_eq] using hd
  by_cases hdt : d = t
  · subst hdt
    rw [lk_upd_eq] at ht
    cases ht
    simp [Act.put, h.size, hdN]
  · rw [lk_upd_ne _ _ hdt] at ht
    have := h.at_ t u ht
    simpa [Act.put, Array.getElem?_setIfInBounds_ne hdt] using this
theorem Fits.putO {N : Nat} {a : Act} {e : Env} (h : Fits N a e) {d : Option Nat} (v : Value) (hd : ∀ t, d = some t → Nat.blt t N = true) : Fits N (a.put d v) (updO e d v) := by
  cases d with
  | none => exact h
  | some t => exact h.put v (hd t rfl)
theorem Fits.weaken {N : Nat} {a : Act} {e e' : Env} (h : Fits N a e) (hs : ∀ t v, lk e' t = some v → lk e t = some v) : Fits N a e' :=
  ⟨h.size, h.defers, fun t v ht => h.at_ t v (hs t v ht)⟩
theorem sel_lk {e : Env} : ∀ {ks : List Nat} {e' : Env}, sel e ks = some e' → ∀ t v, lk e' t = some v → lk e t = some v
  | [], e', h, t, v, ht => by
    simp only [sel, Option.some.injEq] at h
    subst h
    cases ht
  | k :: r, e', h, t, v, ht => by
    simp only [sel] at h
    split at h
    · rename_i u es h1 h2
      simp only [Option.some.injEq] at h
      subst h
      simp only [lk] at ht
      cases hk : Nat.beq k t with
      | true =>
        have : k = t := Nat.eq_of_beq_eq_true hk
        subst this
        simp only [hk, cond_true, Option.some.injEq] at ht
        subst ht
        exact h1
      | false =>
        simp only [hk, cond_false] at ht
        exact sel_lk h2 t v ht
    · cases h

/-! ### Blocks -/
structure Blk where
  b : Nat
  t : TypeId
  cs : List Value
  fz : Nat × Nat := (0, 0)
  wr : Bool := true
/-- what a call may not have changed -/
structure Keep (S : List Nat) (w w' : World) : Prop where
  size : w.heap.size ≤ w'.heap.size
  block : ∀ k, k < w.heap.size → k ∉ S → w'.heap[k]? = w.heap[k]?
  os : w'.os = w.os
  tape : w'.tape = w.tape
  output : w'.output = w.output
theorem Keep.refl (S : List Nat) (w : World) : Keep S w w := ⟨Nat.le_refl _, fun _ _ _ => rfl, rfl, rfl, rfl⟩
theorem Keep.trans {S : List Nat} {a b c : World} (h : Keep S a b) (k : Keep S b c) : Keep S a c :=
  ⟨Nat.le_trans h.size k.size, fun i hi hs => (k.block i (Nat.lt_of_lt_of_le hi h.size) hs).trans (h.block i hi hs), k.os.trans h.os, k.tape.trans h.tape, k.output.trans h.output⟩
/-- cells that came in and are only read: from an offset on -/
structure Row where
  b : Nat
  off : Nat
  cs : List Value
def RowAt (w : World) (r : Row) : Prop := ∀ j v, r.cs[j]? = some v → w.cell? ⟨r.b, r.off + j, none⟩ = some v
structure Cx where
  w0 : World
  S : List Nat
  A : List Nat
  R : List Row
structure Good (c : Cx) (w : World) (H : List Blk) : Prop where
  has : ∀ x ∈ H, w.heap[x.b]? = some (.cells x.cs.toArray x.t x.fz)
  nodup : (H.map Blk.b).Nodup
  mine : ∀ x ∈ H, x.wr = true → c.w0.heap.size ≤ x.b ∨ x.b ∈ c.S
  own : ∀ x ∈ H, c.w0.heap.size ≤ x.b ∨ x.b ∈ c.A
  keep : Keep c.S c.w0 w
  rows : ∀ r ∈ c.R, RowAt w r ∧ ∀ x ∈ H, x.wr = true → r.cs ≠ [] → x.b ≠ r.b
theorem Good.lt {c : Cx} {w : World} {H : List Blk} (h : Good c w H) {x : Blk} (hx : x ∈ H) : x.b < w.heap.size := by
  have := h.has x hx
  exact (Array.getElem?_eq_some_iff.1 this).1
theorem Good.drawn {c : Cx} {w : World} {H : List Blk} (h : Good c w H) (n : Nat) : Good c { w with drawn := n } H :=
  ⟨h.has, h.nodup, h.mine, h.own, ⟨h.keep.size, h.keep.block, h.keep.os, h.keep.tape, h.keep.output⟩, h.rows⟩
theorem RowAt.lt {w : World} {r : Row} (h : RowAt w r) (hn : r.cs ≠ []) : r.b < w.heap.size := by
  match hc : r.cs with
  | [] => exact absurd hc hn
  | v :: l =>
    have := h 0 v (by rw [hc]; rfl)
    unfold World.cell? at this
    cases hb : w.heap[r.b]? with
    | none => simp [hb] at this
    | some o => exact (Array.getElem?_eq_some_iff.1 hb).1
theorem cell_of_heap {w w' : World} {b : Nat} (h : w'.heap[b]? = w.heap[b]?) (o : Nat) : w'.cell? ⟨b, o, none⟩ = w.cell? ⟨b, o, none⟩ := by
  unfold World.cell?
  simp only [h]
theorem RowAt.same {w w' : World} {r : Row} (h : RowAt w r) (hb : r.cs ≠ [] → w'.heap[r.b]? = w.heap[r.b]?) : RowAt w' r := fun j v hv => by
  rw [cell_of_heap (hb (by intro e; simp [e] at hv))]
  exact h j v hv

/-! ### Judgements -/
section
variable (P : Program) (c : Cx) (ops : Array Oper) (Q : Exit → Act → World → Prop) (N : Nat)
def TL (l : List Oper) (e : Env) (H : List Blk) : Prop := ∀ a w, Fits N a e → Good c w H → wpList P ops Q l a w
def TC (code : Code) (e : Env) (H : List Blk) : Prop := ∀ a w, Fits N a e → Good c w H → code.wp P Q a w
/-- the exit, reached with these slots and blocks -/
def TE (x : Exit) (e : Env) (H : List Blk) : Prop := ∀ a w, Fits N a e → Good c w H → Q x a w
end
section
variable {P : Program} {c : Cx} {ops : Array Oper} {Q : Exit → Act → World → Prop} {N : Nat} {e e' : Env} {H : List Blk}
theorem TC.region {id : Nat} {ops : Array Oper} (h : TL P c ops Q N ops.toList e H) : TC P c Q N (.region id ops false) e H :=
  fun a w ha hw => wp_region_list (h a w ha hw)
theorem TL.nil {nx : Code} (h : TC P c Q N nx e H) : TL P c ops (Exit.then (fun a w => nx.wp P Q a w) Q) N [] e H := fun a w ha hw => h a w ha hw
theorem TL.nilE (h : TE c Q N .normal e H) : TL P c ops Q N [] e H := fun a w ha hw => h a w ha hw
theorem TC.seq {x y : Code} (h : TC P c (Exit.then (fun a w => y.wp P Q a w) Q) N x e H) : TC P c Q N (.seq x y) e H := fun a w ha hw => wp_seq (h a w ha hw)
theorem TC.skipE (h : TE c Q N .normal e H) : TC P c Q N .skip e H := fun a w ha hw => wp_skip (h a w ha hw)
theorem TC.ret (h : TE c Q N .ret e H) : TC P c Q N .ret e H := fun a w ha hw => wp_ret (h a w ha hw)
theorem TC.exit {id : Nat} (h : TE c Q N (.exit id) e H) : TC P c Q N (.exit id) e H := fun a w ha hw => wp_exit (h a w ha hw)
theorem TC.block {id : Nat} {x : Code} (h : TC P c (Exit.inBlock id Q) N x e H) : TC P c Q N (.block id x) e H := fun a w ha hw => wp_block (h a w ha hw)
theorem TC.cond {b : Bool} {x : Operand} {t f : Code} (hx : ev e x = some (.bool b)) (ht : b = true → TC P c Q N t e H) (hf : b = false → TC P c Q N f e H) :
    TC P c Q N (.cond x t f) e H := fun a w ha hw => wp_cond_split (ha.ev hx) (fun h => ht h a w ha hw) (fun h => hf h a w ha hw)
theorem TC.condT {x : Operand} {t f : Code} (hx : ev e x = some (.bool true)) (ht : TC P c Q N t e H) : TC P c Q N (.cond x t f) e H :=
  fun a w ha hw => wp_cond_true (ha.ev hx) (ht a w ha hw)
theorem TC.condF {x : Operand} {t f : Code} (hx : ev e x = some (.bool false)) (ht : TC P c Q N f e H) : TC P c Q N (.cond x t f) e H :=
  fun a w ha hw => wp_cond_false (ha.ev hx) (ht a w ha hw)
theorem TE.thenN {nx : Code} (h : TC P c Q N nx e H) : TE c (Exit.then (fun a w => nx.wp P Q a w) Q) N .normal e H := fun a w ha hw => h a w ha hw
theorem TC.keepSlots {code : Code} (ks : List Nat) (hk : sel e ks = some e') (h : TC P c Q N code e' H) : TC P c Q N code e H :=
  fun a w ha hw => h a w (ha.weaken (sel_lk hk)) hw
theorem TL.keepSlots {l : List Oper} (ks : List Nat) (hk : sel e ks = some e') (h : TL P c ops Q N l e' H) : TL P c ops Q N l e H :=
  fun a w ha hw => h a w (ha.weaken (sel_lk hk)) hw
theorem TE.keepSlots {x : Exit} (ks : List Nat) (hk : sel e ks = some e') (h : TE c Q N x e' H) : TE c Q N x e H :=
  fun a w ha hw => h a w (ha.weaken (sel_lk hk)) hw
theorem Good.heap_of {w : World} (h : Good c w H) {H' : List Blk} (hs : H'.Sublist H) : Good c w H' :=
  ⟨fun x hx => h.has x (hs.subset hx), (hs.map _).nodup h.nodup, fun x hx => h.mine x (hs.subset hx), fun x hx => h.own x (hs.subset hx), h.keep, fun r hr => ⟨(h.rows r hr).1, fun x hx => (h.rows r hr).2 x (hs.subset hx)⟩⟩

/-- an operation that hands back a value and leaves the world -/
theorem TL.value {o : Oper} {rest : List Oper} {v : Value} (hg : o.guard = none) (hd : ∀ t, o.dst = some t → Nat.blt t N = true)
    (hx : ∀ a w, Fits N a e → Good c w H → (execOp a.eval o).run P w = .ok (.value v) w)
    (h : TL P c ops Q N rest (updO e o.dst v) H) : TL P c ops Q N (o :: rest) e H := fun a w ha hw =>
  wpList_plain hg fun K hK => by
    unfold Oper.wp
    rw [hx a w ha hw, Oper.upon_value]
    exact hK _ _ (h _ _ (ha.putO v hd) hw)
theorem TL.value' {dst : Nat} {op : Op} {ty : TypeId} {pos : String} {af : Array Edge} {rest : List Oper} {v : Value} (hd : Nat.blt dst N = true)
    (hx : ∀ a w, Fits N a e → Good c w H → (execOp a.eval ⟨some dst, op, ty, pos, af, none⟩).run P w = .ok (.value v) w)
    (h : TL P c ops Q N rest (upd e dst v) H) : TL P c ops Q N (⟨some dst, op, ty, pos, af, none⟩ :: rest) e H :=
  TL.value rfl (fun t ht => by cases ht; exact hd) hx h
end
end Go.Z
