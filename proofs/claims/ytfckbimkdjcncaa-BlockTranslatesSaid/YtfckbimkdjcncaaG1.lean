/- Own texts, joined: ZCore, ZOps, ZMem, ZCall, ZAgg, ZDraw, ZStep, ZAux, ZEq, ZNew. -/
import Derived.Calls
import Derived.Tactics
import Derived.Orders
import Derived.WalkKit
import Derived.Deep.Quiet
import Derived.Laws.StructEq
set_option linter.unusedSimpArgs false
set_option linter.unusedVariables false
namespace Go.Z

/-! ### Slots -/
abbrev Env := List (Nat × Value)
def lk : Env → Nat → Option Value
  | [], _ => none
  | (k, v) :: r, t => bif Nat.beq k t then some v else lk r t
def upd (e : Env) (d : Nat) (v : Value) : Env := (d, v) :: e
def updO (e : Env) (d : Option Nat) (v : Value) : Env := match d with | some d => upd e d v | none => e
def ev (e : Env) : Operand → Option Value
  | .tmp t => lk e t
  | .const v => some v
  | .global g => some (.pointer (some ⟨g, 0, none⟩))
  | .func f => some (.func (.func f) #[] #[])
def evs (e : Env) : List Operand → Option (List Value)
  | [] => some []
  | x :: r => match ev e x, evs e r with
    | some v, some vs => some (v :: vs)
    | _, _ => none
/-- which slots of e are kept -/
def sel (e : Env) : List Nat → Option Env
  | [] => some []
  | k :: r => match lk e k, sel e r with
    | some v, some es => some ((k, v) :: es)
    | _, _ => none
theorem lk_upd_eq (e : Env) (d : Nat) (v : Value) : lk (upd e d v) d = some v := by
  simp [upd, lk]
theorem lk_upd_ne (e : Env) {d t : Nat} (v : Value) (h : d ≠ t) : lk (upd e d v) t = lk e t := by
  have : Nat.beq d t = false := by
    cases h3 : Nat.beq d t with
    | true => exact absurd (Nat.eq_of_beq_eq_true h3) h
    | false => rfl
  simp [upd, lk, this]

structure Fits (N : Nat) (a : Act) (e : Env) : Prop where
  size : a.tmps.size = N
  defers : a.defers = []
  at_ : ∀ t v, lk e t = some v → a.tmps.getD t undef = v
theorem Fits.ev {N : Nat} {a : Act} {e : Env} (h : Fits N a e) {x : Operand} {v : Value} (hx : ev e x = some v) : a.eval x = v := by
  cases x with
  | tmp t => exact h.at_ t v hx
  | const u => simpa [Z.ev, Act.eval] using hx
  | global g => simpa [Z.ev, Act.eval] using hx
  | func f => simpa [Z.ev, Act.eval] using hx
theorem Fits.evs {N : Nat} {a : Act} {e : Env} (h : Fits N a e) : ∀ {xs : List Operand} {vs : List Value}, evs e xs = some vs → xs.map a.eval = vs
  | [], vs, hx => by simpa [Z.evs] using hx
  | x :: r, vs, hx => by
    simp only [Z.evs] at hx
    split at hx
    · rename_i v us h1 h2
      simp only [Option.some.injEq] at hx
      subst hx
      simp [h.ev h1, h.evs h2]
    · cases hx
theorem Fits.put {N : Nat} {a : Act} {e : Env} (h : Fits N a e) {d : Nat} (v : Value) (hd : Nat.blt d N = true) : Fits N (a.put (some d) v) (upd e d v) := by
  refine ⟨by simp [Act.put, h.size], h.defers, fun t u ht => ?_⟩
  have hdN : d < N := by simpa [Nat.blt_eq] using hd
  by_cases hdt : d = t
  · subst hdt
    rw [lk_upd_eq] at ht
    cases ht
    simp [Act.put, h.size, hdN]
  · rw [lk_upd_ne _ _ hdt] at ht
    have := h.at_ t u ht
    simpa [Act.put, Array.getElem?_setIfInBounds_ne hdt] using this
theorem Fits.putO {N : Nat} {a : Act} {e : Env} (h : Fits N a e) {d : Option Nat} (v : Value) (hd : ∀ t, d = some t → Nat.blt t N = true) : Fits N (a.put d v) (updO e d v) := by
  cases d with
  | none => exact h
  | some t => exact h.put v (hd t rfl)
theorem Fits.weaken {N : Nat} {a : Act} {e e' : Env} (h : Fits N a e) (hs : ∀ t v, lk e' t = some v → lk e t = some v) : Fits N a e' :=
  ⟨h.size, h.defers, fun t v ht => h.at_ t v (hs t v ht)⟩
theorem sel_lk {e : Env} : ∀ {ks : List Nat} {e' : Env}, sel e ks = some e' → ∀ t v, lk e' t = some v → lk e t = some v
  | [], e', h, t, v, ht => by
    simp only [sel, Option.some.injEq] at h
    subst h
    cases ht
  | k :: r, e', h, t, v, ht => by
    simp only [sel] at h
    split at h
    · rename_i u es h1 h2
      simp only [Option.some.injEq] at h
      subst h
      simp only [lk] at ht
      cases hk : Nat.beq k t with
      | true =>
        have : k = t := Nat.eq_of_beq_eq_true hk
        subst this
        simp only [hk, cond_true, Option.some.injEq] at ht
        subst ht
        exact h1
      | false =>
        simp only [hk, cond_false] at ht
        exact sel_lk h2 t v ht
    · cases h

/-! ### Blocks -/
structure Blk where
  b : Nat
  t : TypeId
  cs : List Value
  fz : Nat × Nat := (0, 0)
  wr : Bool := true
/-- what a call may not have changed -/
structure Keep (S : List Nat) (w w' : World) : Prop where
  size : w.heap.size ≤ w'.heap.size
  block : ∀ k, k < w.heap.size → k ∉ S → w'.heap[k]? = w.heap[k]?
  os : w'.os = w.os
  tape : w'.tape = w.tape
  output : w'.output = w.output
theorem Keep.refl (S : List Nat) (w : World) : Keep S w w := ⟨Nat.le_refl _, fun _ _ _ => rfl, rfl, rfl, rfl⟩
theorem Keep.trans {S : List Nat} {a b c : World} (h : Keep S a b) (k : Keep S b c) : Keep S a c :=
  ⟨Nat.le_trans h.size k.size, fun i hi hs => (k.block i (Nat.lt_of_lt_of_le hi h.size) hs).trans (h.block i hi hs), k.os.trans h.os, k.tape.trans h.tape, k.output.trans h.output⟩
/-- cells that came in and are only read: from an offset on -/
structure Row where
  b : Nat
  off : Nat
  cs : List Value
def RowAt (w : World) (r : Row) : Prop := ∀ j v, r.cs[j]? = some v → w.cell? ⟨r.b, r.off + j, none⟩ = some v
structure Cx where
  w0 : World
  S : List Nat
  A : List Nat
  R : List Row
structure Good (c : Cx) (w : World) (H : List Blk) : Prop where
  has : ∀ x ∈ H, w.heap[x.b]? = some (.cells x.cs.toArray x.t x.fz)
  nodup : (H.map Blk.b).Nodup
  mine : ∀ x ∈ H, x.wr = true → c.w0.heap.size ≤ x.b ∨ x.b ∈ c.S
  own : ∀ x ∈ H, c.w0.heap.size ≤ x.b ∨ x.b ∈ c.A
  keep : Keep c.S c.w0 w
  rows : ∀ r ∈ c.R, RowAt w r ∧ ∀ x ∈ H, x.wr = true → r.cs ≠ [] → x.b ≠ r.b
theorem Good.lt {c : Cx} {w : World} {H : List Blk} (h : Good c w H) {x : Blk} (hx : x ∈ H) : x.b < w.heap.size := by
  have := h.has x hx
  exact (Array.getElem?_eq_some_iff.1 this).1
theorem Good.drawn {c : Cx} {w : World} {H : List Blk} (h : Good c w H) (n : Nat) : Good c { w with drawn := n } H :=
  ⟨h.has, h.nodup, h.mine, h.own, ⟨h.keep.size, h.keep.block, h.keep.os, h.keep.tape, h.keep.output⟩, h.rows⟩
theorem RowAt.lt {w : World} {r : Row} (h : RowAt w r) (hn : r.cs ≠ []) : r.b < w.heap.size := by
  match hc : r.cs with
  | [] => exact absurd hc hn
  | v :: l =>
    have := h 0 v (by rw [hc]; rfl)
    unfold World.cell? at this
    cases hb : w.heap[r.b]? with
    | none => simp [hb] at this
    | some o => exact (Array.getElem?_eq_some_iff.1 hb).1
theorem cell_of_heap {w w' : World} {b : Nat} (h : w'.heap[b]? = w.heap[b]?) (o : Nat) : w'.cell? ⟨b, o, none⟩ = w.cell? ⟨b, o, none⟩ := by
  unfold World.cell?
  simp only [h]
theorem RowAt.same {w w' : World} {r : Row} (h : RowAt w r) (hb : r.cs ≠ [] → w'.heap[r.b]? = w.heap[r.b]?) : RowAt w' r := fun j v hv => by
  rw [cell_of_heap (hb (by intro e; simp [e] at hv))]
  exact h j v hv

/-! ### Judgements -/
section
variable (P : Program) (c : Cx) (ops : Array Oper) (Q : Exit → Act → World → Prop) (N : Nat)
def TL (l : List Oper) (e : Env) (H : List Blk) : Prop := ∀ a w, Fits N a e → Good c w H → wpList P ops Q l a w
def TC (code : Code) (e : Env) (H : List Blk) : Prop := ∀ a w, Fits N a e → Good c w H → code.wp P Q a w
/-- the exit, reached with these slots and blocks -/
def TE (x : Exit) (e : Env) (H : List Blk) : Prop := ∀ a w, Fits N a e → Good c w H → Q x a w
end
section
variable {P : Program} {c : Cx} {ops : Array Oper} {Q : Exit → Act → World → Prop} {N : Nat} {e e' : Env} {H : List Blk}
theorem TC.region {id : Nat} {ops : Array Oper} (h : TL P c ops Q N ops.toList e H) : TC P c Q N (.region id ops false) e H :=
  fun a w ha hw => wp_region_list (h a w ha hw)
theorem TL.nil {nx : Code} (h : TC P c Q N nx e H) : TL P c ops (Exit.then (fun a w => nx.wp P Q a w) Q) N [] e H := fun a w ha hw => h a w ha hw
theorem TL.nilE (h : TE c Q N .normal e H) : TL P c ops Q N [] e H := fun a w ha hw => h a w ha hw
theorem TC.seq {x y : Code} (h : TC P c (Exit.then (fun a w => y.wp P Q a w) Q) N x e H) : TC P c Q N (.seq x y) e H := fun a w ha hw => wp_seq (h a w ha hw)
theorem TC.skipE (h : TE c Q N .normal e H) : TC P c Q N .skip e H := fun a w ha hw => wp_skip (h a w ha hw)
theorem TC.ret (h : TE c Q N .ret e H) : TC P c Q N .ret e H := fun a w ha hw => wp_ret (h a w ha hw)
theorem TC.exit {id : Nat} (h : TE c Q N (.exit id) e H) : TC P c Q N (.exit id) e H := fun a w ha hw => wp_exit (h a w ha hw)
theorem TC.block {id : Nat} {x : Code} (h : TC P c (Exit.inBlock id Q) N x e H) : TC P c Q N (.block id x) e H := fun a w ha hw => wp_block (h a w ha hw)
theorem TC.cond {b : Bool} {x : Operand} {t f : Code} (hx : ev e x = some (.bool b)) (ht : b = true → TC P c Q N t e H) (hf : b = false → TC P c Q N f e H) :
    TC P c Q N (.cond x t f) e H := fun a w ha hw => wp_cond_split (ha.ev hx) (fun h => ht h a w ha hw) (fun h => hf h a w ha hw)
theorem TC.condT {x : Operand} {t f : Code} (hx : ev e x = some (.bool true)) (ht : TC P c Q N t e H) : TC P c Q N (.cond x t f) e H :=
  fun a w ha hw => wp_cond_true (ha.ev hx) (ht a w ha hw)
theorem TC.condF {x : Operand} {t f : Code} (hx : ev e x = some (.bool false)) (ht : TC P c Q N f e H) : TC P c Q N (.cond x t f) e H :=
  fun a w ha hw => wp_cond_false (ha.ev hx) (ht a w ha hw)
theorem TE.thenN {nx : Code} (h : TC P c Q N nx e H) : TE c (Exit.then (fun a w => nx.wp P Q a w) Q) N .normal e H := fun a w ha hw => h a w ha hw
theorem TC.keepSlots {code : Code} (ks : List Nat) (hk : sel e ks = some e') (h : TC P c Q N code e' H) : TC P c Q N code e H :=
  fun a w ha hw => h a w (ha.weaken (sel_lk hk)) hw
theorem TL.keepSlots {l : List Oper} (ks : List Nat) (hk : sel e ks = some e') (h : TL P c ops Q N l e' H) : TL P c ops Q N l e H :=
  fun a w ha hw => h a w (ha.weaken (sel_lk hk)) hw
theorem TE.keepSlots {x : Exit} (ks : List Nat) (hk : sel e ks = some e') (h : TE c Q N x e' H) : TE c Q N x e H :=
  fun a w ha hw => h a w (ha.weaken (sel_lk hk)) hw
theorem Good.heap_of {w : World} (h : Good c w H) {H' : List Blk} (hs : H'.Sublist H) : Good c w H' :=
  ⟨fun x hx => h.has x (hs.subset hx), (hs.map _).nodup h.nodup, fun x hx => h.mine x (hs.subset hx), fun x hx => h.own x (hs.subset hx), h.keep, fun r hr => ⟨(h.rows r hr).1, fun x hx => (h.rows r hr).2 x (hs.subset hx)⟩⟩

/-- an operation that hands back a value and leaves the world -/
theorem TL.value {o : Oper} {rest : List Oper} {v : Value} (hg : o.guard = none) (hd : ∀ t, o.dst = some t → Nat.blt t N = true)
    (hx : ∀ a w, Fits N a e → Good c w H → (execOp a.eval o).run P w = .ok (.value v) w)
    (h : TL P c ops Q N rest (updO e o.dst v) H) : TL P c ops Q N (o :: rest) e H := fun a w ha hw =>
  wpList_plain hg fun K hK => by
    unfold Oper.wp
    rw [hx a w ha hw, Oper.upon_value]
    exact hK _ _ (h _ _ (ha.putO v hd) hw)
theorem TL.value' {dst : Nat} {op : Op} {ty : TypeId} {pos : String} {af : Array Edge} {rest : List Oper} {v : Value} (hd : Nat.blt dst N = true)
    (hx : ∀ a w, Fits N a e → Good c w H → (execOp a.eval ⟨some dst, op, ty, pos, af, none⟩).run P w = .ok (.value v) w)
    (h : TL P c ops Q N rest (upd e dst v) H) : TL P c ops Q N (⟨some dst, op, ty, pos, af, none⟩ :: rest) e H :=
  TL.value rfl (fun t ht => by cases ht; exact hd) hx h
end
end Go.Z

set_option linter.unusedSimpArgs false
set_option linter.unusedVariables false
namespace Go.Z
section
variable {P : Program} {c : Cx} {ops : Array Oper} {Q : Exit → Act → World → Prop} {N : Nat} {e : Env} {H : List Blk} {rest : List Oper} {d : Nat} {t : TypeId} {p : String} {af : Array Edge}
theorem TL.move {x : Operand} {v : Value} (hx : ev e x = some v) (hd : Nat.blt d N = true) (h : TL P c ops Q N rest (upd e d v) H) :
    TL P c ops Q N (⟨some d, .move x, t, p, af, none⟩ :: rest) e H := TL.value' hd (fun a w ha _ => by simp [execOp, ha.ev hx]) h
theorem TL.assign {x : Operand} {v : Value} (hx : ev e x = some v) (hd : Nat.blt d N = true) (h : TL P c ops Q N rest (upd e d v) H) :
    TL P c ops Q N (⟨some d, .assign x, t, p, af, none⟩ :: rest) e H := TL.value' hd (fun a w ha _ => by simp [execOp, ha.ev hx]) h
theorem TL.pick {x y z : Operand} {b : Bool} {u v r : Value} (hx : ev e x = some (.bool b)) (hy : ev e y = some u) (hz : ev e z = some v) (hd : Nat.blt d N = true) (hr : (if b then u else v) = r)
    (h : TL P c ops Q N rest (upd e d r) H) : TL P c ops Q N (⟨some d, .pick x y z, t, p, af, none⟩ :: rest) e H :=
  TL.value' hd (fun a w ha _ => by simp [execOp, ha.ev hx, ha.ev hy, ha.ev hz, asBool, ← hr]) h
theorem TL.not {x : Operand} {b : Bool} {xt : TypeId} (hx : ev e x = some (.bool b)) (hd : Nat.blt d N = true) (h : TL P c ops Q N rest (upd e d (.bool (!b))) H) :
    TL P c ops Q N (⟨some d, .unOp .not xt x, t, p, af, none⟩ :: rest) e H := TL.value' hd (fun a w ha _ => by simp [execOp, ha.ev hx, Op.unary]) h
theorem TL.neg {x : Operand} {k : IntKind} {m r : Int} {xt : TypeId} (hx : ev e x = some (.int k m)) (hd : Nat.blt d N = true) (hr : k.wrap (0 - m) = r) (h : TL P c ops Q N rest (upd e d (.int k r)) H) :
    TL P c ops Q N (⟨some d, .unOp .neg xt x, t, p, af, none⟩ :: rest) e H := TL.value' hd (fun a w ha _ => by simp [execOp, ha.ev hx, Op.unary, Op.intArith]; rw [← hr]; congr 1; omega) h
theorem TL.compl {x : Operand} {k : IntKind} {m r : Int} {xt : TypeId} (hx : ev e x = some (.int k m)) (hd : Nat.blt d N = true) (hr : bits .xor k (if k.signed then -1 else k.max) m = r) (h : TL P c ops Q N rest (upd e d (.int k r)) H) :
    TL P c ops Q N (⟨some d, .unOp .xor xt x, t, p, af, none⟩ :: rest) e H := TL.value' hd (fun a w ha _ => by simp [execOp, ha.ev hx, Op.unary, Op.intBits, ← hr, bits]) h
theorem TL.conv {x : Operand} {k k' : IntKind} {m r : Int} {src dst : TypeId} {s : TypeDesc} (hx : ev e x = some (.int k m)) (hd : Nat.blt d N = true) (hs : P.underlying src = some s) (hu : P.underlying dst = some (.int k'))
    (hr : k'.wrap m = r) (h : TL P c ops Q N rest (upd e d (.int k' r)) H) : TL P c ops Q N (⟨some d, .convert src dst x, t, p, af, none⟩ :: rest) e H :=
  TL.value' hd (fun a w ha _ => by simp [execOp, ha.ev hx, convert, hs, hu, underlying, Conv.intToInt, hr]) h
theorem TL.nilCheck {x : Operand} {b : Addr} (hx : ev e x = some (.pointer (some b))) (hd : Nat.blt d N = true) (h : TL P c ops Q N rest (upd e d (.pointer (some b))) H) :
    TL P c ops Q N (⟨some d, .nilCheck x, t, p, af, none⟩ :: rest) e H := TL.value' hd (fun a w ha _ => by simp [execOp, ha.ev hx]) h
theorem TL.extract {x : Operand} {vs : List Value} {i : Nat} {v : Value} (hx : ev e x = some (.tuple vs.toArray)) (hv : vs[i]? = some v) (hd : Nat.blt d N = true) (h : TL P c ops Q N rest (upd e d v) H) :
    TL P c ops Q N (⟨some d, .extract x i, t, p, af, none⟩ :: rest) e H := TL.value' hd (fun a w ha _ => by simp [execOp, ha.ev hx, Instr.extract, hv]) h
theorem TL.add {x y : Operand} {k : IntKind} {m n r : Int} {xt yt : TypeId} (hx : ev e x = some (.int k m)) (hy : ev e y = some (.int k n)) (hd : Nat.blt d N = true) (hr : k.wrap (m + n) = r)
    (h : TL P c ops Q N rest (upd e d (.int k r)) H) : TL P c ops Q N (⟨some d, .binOp .add xt x y yt, t, p, af, none⟩ :: rest) e H :=
  TL.value' hd (fun a w ha _ => by simp [execOp, ha.ev hx, ha.ev hy, eqGuard, binOp, Op.intArith, hr]) h
theorem TL.sub {x y : Operand} {k : IntKind} {m n r : Int} {xt yt : TypeId} (hx : ev e x = some (.int k m)) (hy : ev e y = some (.int k n)) (hd : Nat.blt d N = true) (hr : k.wrap (m - n) = r)
    (h : TL P c ops Q N rest (upd e d (.int k r)) H) : TL P c ops Q N (⟨some d, .binOp .sub xt x y yt, t, p, af, none⟩ :: rest) e H :=
  TL.value' hd (fun a w ha _ => by simp [execOp, ha.ev hx, ha.ev hy, eqGuard, binOp, Op.intArith, hr]) h
theorem TL.mul {x y : Operand} {k : IntKind} {m n r : Int} {xt yt : TypeId} (hx : ev e x = some (.int k m)) (hy : ev e y = some (.int k n)) (hd : Nat.blt d N = true) (hr : k.wrap (m * n) = r)
    (h : TL P c ops Q N rest (upd e d (.int k r)) H) : TL P c ops Q N (⟨some d, .binOp .mul xt x y yt, t, p, af, none⟩ :: rest) e H :=
  TL.value' hd (fun a w ha _ => by simp [execOp, ha.ev hx, ha.ev hy, eqGuard, binOp, Op.intArith, hr]) h
theorem TL.quo {x y : Operand} {k : IntKind} {m n r : Int} {xt yt : TypeId} (hx : ev e x = some (.int k m)) (hy : ev e y = some (.int k n)) (hn : n ≠ 0) (hd : Nat.blt d N = true) (hr : k.wrap (m.tdiv n) = r)
    (h : TL P c ops Q N rest (upd e d (.int k r)) H) : TL P c ops Q N (⟨some d, .binOp .quo xt x y yt, t, p, af, none⟩ :: rest) e H :=
  TL.value' hd (fun a w ha _ => by simp [execOp, ha.ev hx, ha.ev hy, eqGuard, binOp, Op.intDiv, hn, hr]) h
theorem TL.rem {x y : Operand} {k : IntKind} {m n r : Int} {xt yt : TypeId} (hx : ev e x = some (.int k m)) (hy : ev e y = some (.int k n)) (hn : n ≠ 0) (hd : Nat.blt d N = true) (hr : m.tmod n = r)
    (h : TL P c ops Q N rest (upd e d (.int k r)) H) : TL P c ops Q N (⟨some d, .binOp .rem xt x y yt, t, p, af, none⟩ :: rest) e H :=
  TL.value' hd (fun a w ha _ => by simp [execOp, ha.ev hx, ha.ev hy, eqGuard, binOp, Op.intDiv, hn, hr]) h
theorem TL.band {x y : Operand} {k : IntKind} {m n r : Int} {xt yt : TypeId} (hx : ev e x = some (.int k m)) (hy : ev e y = some (.int k n)) (hd : Nat.blt d N = true) (hr : bits .and k m n = r)
    (h : TL P c ops Q N rest (upd e d (.int k r)) H) : TL P c ops Q N (⟨some d, .binOp .and xt x y yt, t, p, af, none⟩ :: rest) e H :=
  TL.value' hd (fun a w ha _ => by simp [execOp, ha.ev hx, ha.ev hy, eqGuard, binOp, Op.intBits, ← hr, bits]) h
theorem TL.bor {x y : Operand} {k : IntKind} {m n r : Int} {xt yt : TypeId} (hx : ev e x = some (.int k m)) (hy : ev e y = some (.int k n)) (hd : Nat.blt d N = true) (hr : bits .or k m n = r)
    (h : TL P c ops Q N rest (upd e d (.int k r)) H) : TL P c ops Q N (⟨some d, .binOp .or xt x y yt, t, p, af, none⟩ :: rest) e H :=
  TL.value' hd (fun a w ha _ => by simp [execOp, ha.ev hx, ha.ev hy, eqGuard, binOp, Op.intBits, ← hr, bits]) h
theorem TL.xor {x y : Operand} {k : IntKind} {m n r : Int} {xt yt : TypeId} (hx : ev e x = some (.int k m)) (hy : ev e y = some (.int k n)) (hd : Nat.blt d N = true) (hr : bits .xor k m n = r)
    (h : TL P c ops Q N rest (upd e d (.int k r)) H) : TL P c ops Q N (⟨some d, .binOp .xor xt x y yt, t, p, af, none⟩ :: rest) e H :=
  TL.value' hd (fun a w ha _ => by simp [execOp, ha.ev hx, ha.ev hy, eqGuard, binOp, Op.intBits, ← hr, bits]) h
theorem TL.andNot {x y : Operand} {k : IntKind} {m n r : Int} {xt yt : TypeId} (hx : ev e x = some (.int k m)) (hy : ev e y = some (.int k n)) (hd : Nat.blt d N = true) (hr : bits .andNot k m n = r)
    (h : TL P c ops Q N rest (upd e d (.int k r)) H) : TL P c ops Q N (⟨some d, .binOp .andNot xt x y yt, t, p, af, none⟩ :: rest) e H :=
  TL.value' hd (fun a w ha _ => by simp [execOp, ha.ev hx, ha.ev hy, eqGuard, binOp, Op.intBits, ← hr, bits]) h
theorem TL.eql {x y : Operand} {k : IntKind} {m n : Int} {r : Bool} {xt yt : TypeId} (hx : ev e x = some (.int k m)) (hy : ev e y = some (.int k n)) (hd : Nat.blt d N = true) (hr : (m == n) = r)
    (h : TL P c ops Q N rest (upd e d (.bool r)) H) : TL P c ops Q N (⟨some d, .binOp .eql xt x y yt, t, p, af, none⟩ :: rest) e H :=
  TL.value' hd (fun a w ha _ => by simp [execOp, ha.ev hx, ha.ev hy, eqGuard, binOp, Op.intCmp, ← hr]) h
theorem TL.neq {x y : Operand} {k : IntKind} {m n : Int} {r : Bool} {xt yt : TypeId} (hx : ev e x = some (.int k m)) (hy : ev e y = some (.int k n)) (hd : Nat.blt d N = true) (hr : (m != n) = r)
    (h : TL P c ops Q N rest (upd e d (.bool r)) H) : TL P c ops Q N (⟨some d, .binOp .neq xt x y yt, t, p, af, none⟩ :: rest) e H :=
  TL.value' hd (fun a w ha _ => by simp [execOp, ha.ev hx, ha.ev hy, eqGuard, binOp, Op.intCmp, ← hr]) h
theorem TL.lss {x y : Operand} {k : IntKind} {m n : Int} {r : Bool} {xt yt : TypeId} (hx : ev e x = some (.int k m)) (hy : ev e y = some (.int k n)) (hd : Nat.blt d N = true) (hr : (decide (m < n)) = r)
    (h : TL P c ops Q N rest (upd e d (.bool r)) H) : TL P c ops Q N (⟨some d, .binOp .lss xt x y yt, t, p, af, none⟩ :: rest) e H :=
  TL.value' hd (fun a w ha _ => by simp [execOp, ha.ev hx, ha.ev hy, eqGuard, binOp, Op.intCmp, ← hr]) h
theorem TL.leq {x y : Operand} {k : IntKind} {m n : Int} {r : Bool} {xt yt : TypeId} (hx : ev e x = some (.int k m)) (hy : ev e y = some (.int k n)) (hd : Nat.blt d N = true) (hr : (decide (m ≤ n)) = r)
    (h : TL P c ops Q N rest (upd e d (.bool r)) H) : TL P c ops Q N (⟨some d, .binOp .leq xt x y yt, t, p, af, none⟩ :: rest) e H :=
  TL.value' hd (fun a w ha _ => by simp [execOp, ha.ev hx, ha.ev hy, eqGuard, binOp, Op.intCmp, ← hr]) h
theorem TL.gtr {x y : Operand} {k : IntKind} {m n : Int} {r : Bool} {xt yt : TypeId} (hx : ev e x = some (.int k m)) (hy : ev e y = some (.int k n)) (hd : Nat.blt d N = true) (hr : (decide (m > n)) = r)
    (h : TL P c ops Q N rest (upd e d (.bool r)) H) : TL P c ops Q N (⟨some d, .binOp .gtr xt x y yt, t, p, af, none⟩ :: rest) e H :=
  TL.value' hd (fun a w ha _ => by simp [execOp, ha.ev hx, ha.ev hy, eqGuard, binOp, Op.intCmp, ← hr]) h
theorem TL.geq {x y : Operand} {k : IntKind} {m n : Int} {r : Bool} {xt yt : TypeId} (hx : ev e x = some (.int k m)) (hy : ev e y = some (.int k n)) (hd : Nat.blt d N = true) (hr : (decide (m ≥ n)) = r)
    (h : TL P c ops Q N rest (upd e d (.bool r)) H) : TL P c ops Q N (⟨some d, .binOp .geq xt x y yt, t, p, af, none⟩ :: rest) e H :=
  TL.value' hd (fun a w ha _ => by simp [execOp, ha.ev hx, ha.ev hy, eqGuard, binOp, Op.intCmp, ← hr]) h
theorem TL.shl {x y : Operand} {k ky : IntKind} {m n r : Int} {xt yt : TypeId} (hx : ev e x = some (.int k m)) (hy : ev e y = some (.int ky n)) (hn : 0 ≤ n) (hd : Nat.blt d N = true) (hr : k.wrap (m * 2 ^ min n.toNat k.bits) = r)
    (h : TL P c ops Q N rest (upd e d (.int k r)) H) : TL P c ops Q N (⟨some d, .binOp .shl xt x y yt, t, p, af, none⟩ :: rest) e H :=
  TL.value' hd (fun a w ha _ => by simp [execOp, ha.ev hx, ha.ev hy, eqGuard, binOp, Op.shift, Int.not_lt.mpr hn, hr]) h
theorem TL.shr {x y : Operand} {k ky : IntKind} {m n r : Int} {xt yt : TypeId} (hx : ev e x = some (.int k m)) (hy : ev e y = some (.int ky n)) (hn : 0 ≤ n) (hd : Nat.blt d N = true) (hr : m.fdiv (2 ^ min n.toNat k.bits) = r)
    (h : TL P c ops Q N rest (upd e d (.int k r)) H) : TL P c ops Q N (⟨some d, .binOp .shr xt x y yt, t, p, af, none⟩ :: rest) e H :=
  TL.value' hd (fun a w ha _ => by simp [execOp, ha.ev hx, ha.ev hy, eqGuard, binOp, Op.shift, Int.not_lt.mpr hn, hr]) h
theorem TL.strCat {x y : Operand} {s u : ByteArray} {xt yt : TypeId} (hx : ev e x = some (.string s)) (hy : ev e y = some (.string u)) (hsz : s.size + u.size ≤ 9223372036854775807) (hd : Nat.blt d N = true)
    (h : TL P c ops Q N rest (upd e d (.string (s ++ u))) H) : TL P c ops Q N (⟨some d, .binOp .add xt x y yt, t, p, af, none⟩ :: rest) e H :=
  TL.value' hd (fun a w ha _ => by simp [execOp, ha.ev hx, ha.ev hy, eqGuard, binOp, Op.stringOp]; omega) h
theorem TL.strEql {x y : Operand} {s u : ByteArray} {xt yt : TypeId} {r : Bool} (hx : ev e x = some (.string s)) (hy : ev e y = some (.string u)) (hd : Nat.blt d N = true) (hr : (s.data.toList == u.data.toList) = r)
    (h : TL P c ops Q N rest (upd e d (.bool r)) H) : TL P c ops Q N (⟨some d, .binOp .eql xt x y yt, t, p, af, none⟩ :: rest) e H :=
  TL.value' hd (fun a w ha _ => by simp [execOp, ha.ev hx, ha.ev hy, eqGuard, binOp, Op.stringOp, ByteArray.toList_eq, ← hr]) h
theorem TL.strNeq {x y : Operand} {s u : ByteArray} {xt yt : TypeId} {r : Bool} (hx : ev e x = some (.string s)) (hy : ev e y = some (.string u)) (hd : Nat.blt d N = true) (hr : (!(s.data.toList == u.data.toList)) = r)
    (h : TL P c ops Q N rest (upd e d (.bool r)) H) : TL P c ops Q N (⟨some d, .binOp .neq xt x y yt, t, p, af, none⟩ :: rest) e H :=
  TL.value' hd (fun a w ha _ => by simp [execOp, ha.ev hx, ha.ev hy, eqGuard, binOp, Op.stringOp, ByteArray.toList_eq, ← hr]) h
end
end Go.Z

set_option linter.unusedSimpArgs false
set_option linter.unusedVariables false
namespace Go.Z
/-! ### The world's changes -/
section
variable {c : Cx} {w : World} {H : List Blk}
theorem heap_alloc_old (w : World) (o : Obj) {k : Nat} (h : k < w.heap.size) : (w.alloc o).heap[k]? = w.heap[k]? := by
  show (w.heap.push o)[k]? = _
  rw [Array.getElem?_push, if_neg (by omega)]
theorem heap_alloc_new (w : World) (o : Obj) : (w.alloc o).heap[w.heap.size]? = some o := by
  show (w.heap.push o)[w.heap.size]? = _
  simp
theorem heap_alloc_size (w : World) (o : Obj) : (w.alloc o).heap.size = w.heap.size + 1 := by
  show (w.heap.push o).size = _
  simp
theorem Good.alloc (h : Good c w H) (t : TypeId) (cs : List Value) (fz : Nat × Nat) :
    Good c (w.alloc (.cells cs.toArray t fz)) (H ++ [⟨w.heap.size, t, cs, fz, true⟩]) := by
  refine ⟨fun x hx => ?_, ?_, fun x hx _ => ?_, fun x hx => ?_, ?_, fun r hr => ⟨?_, fun x hx hwr hne => ?_⟩⟩
  · rcases List.mem_append.1 hx with hx | hx
    · rw [heap_alloc_old _ _ (h.lt hx)]; exact h.has x hx
    · simp only [List.mem_singleton] at hx
      subst hx
      exact heap_alloc_new _ _
  · rw [List.map_append, List.map_singleton]
    refine List.nodup_append.2 ⟨h.nodup, by simp, fun a ha b hb => ?_⟩
    simp only [List.mem_singleton] at hb
    obtain ⟨x, hx, rfl⟩ := List.mem_map.1 ha
    have := h.lt hx
    omega
  · rcases List.mem_append.1 hx with hx | hx
    · rename_i hwr; exact h.mine x hx hwr
    · simp only [List.mem_singleton] at hx
      subst hx
      exact .inl h.keep.size
  · rcases List.mem_append.1 hx with hx | hx
    · exact h.own x hx
    · simp only [List.mem_singleton] at hx
      subst hx
      exact .inl h.keep.size
  · exact h.keep.trans ⟨by rw [heap_alloc_size]; omega, fun k hk _ => heap_alloc_old _ _ hk, rfl, rfl, rfl⟩
  · exact (h.rows r hr).1.same fun hne => heap_alloc_old _ _ ((h.rows r hr).1.lt hne)
  · rcases List.mem_append.1 hx with hx | hx
    · exact (h.rows r hr).2 x hx hwr hne
    · simp only [List.mem_singleton] at hx
      subst hx
      have := (h.rows r hr).1.lt hne
      show w.heap.size ≠ r.b
      omega
theorem heap_setCell_other (w : World) (a : Addr) (u : Value) {k : Nat} (h : k ≠ a.block) : (w.setCell a u).heap[k]? = w.heap[k]? := by
  simp only [World.setCell, Array.getElem?_modify]
  rw [if_neg (by omega)]
theorem heap_setCell_same (w : World) {b o : Nat} (u : Value) {cs : List Value} {t : TypeId} {fz : Nat × Nat} (h : w.heap[b]? = some (.cells cs.toArray t fz)) :
    (w.setCell ⟨b, o, none⟩ u).heap[b]? = some (.cells (cs.set o u).toArray t fz) := by
  simp [World.setCell, Array.getElem?_modify, h]
theorem heap_setCell_size (w : World) (a : Addr) (u : Value) : (w.setCell a u).heap.size = w.heap.size := by
  simp [World.setCell]
/-- the block number i, its cells turned -/
def setB (H : List Blk) (i : Nat) (cs : List Value) : List Blk := match H, i with
  | [], _ => []
  | x :: r, 0 => { x with cs := cs } :: r
  | x :: r, i + 1 => x :: setB r i cs
theorem setB_b : ∀ (H : List Blk) (i : Nat) (cs : List Value), (setB H i cs).map Blk.b = H.map Blk.b
  | [], _, _ => rfl
  | _ :: _, 0, _ => rfl
  | x :: r, i + 1, cs => by simp [setB, setB_b r i cs]
theorem mem_setB : ∀ {H : List Blk} {i : Nat} {cs : List Value} {x y : Blk}, H[i]? = some x → (H.map Blk.b).Nodup → y ∈ setB H i cs → (y = { x with cs := cs }) ∨ (y ∈ H ∧ y.b ≠ x.b)
  | [], _, _, _, _, h, _, _ => by simp at h
  | z :: r, 0, cs, x, y, h, hn, hy => by
    simp only [List.getElem?_cons_zero, Option.some.injEq] at h
    subst h
    simp only [setB, List.mem_cons] at hy
    rcases hy with rfl | hy
    · exact .inl rfl
    · refine .inr ⟨List.mem_cons_of_mem _ hy, fun e => ?_⟩
      simp only [List.map_cons, List.nodup_cons] at hn
      exact hn.1 (e ▸ List.mem_map.2 ⟨y, hy, rfl⟩)
  | z :: r, i + 1, cs, x, y, h, hn, hy => by
    simp only [List.getElem?_cons_succ] at h
    simp only [List.map_cons, List.nodup_cons] at hn
    simp only [setB, List.mem_cons] at hy
    rcases hy with rfl | hy
    · refine .inr ⟨List.mem_cons_self, fun e => hn.1 (e ▸ List.mem_map.2 ⟨x, List.mem_of_getElem? h, rfl⟩)⟩
    · rcases mem_setB h hn.2 hy with e | ⟨e, ne⟩
      · exact .inl e
      · exact .inr ⟨List.mem_cons_of_mem _ e, ne⟩
theorem Good.setCell (h : Good c w H) {i : Nat} {x : Blk} (hx : H[i]? = some x) (hwr : x.wr = true) (o : Nat) (u : Value) :
    Good c (w.setCell ⟨x.b, o, none⟩ u) (setB H i (x.cs.set o u)) := by
  have hxm := List.mem_of_getElem? hx
  refine ⟨fun y hy => ?_, by rw [setB_b]; exact h.nodup, fun y hy hyw => ?_, fun y hy => ?_, ?_, fun r hr => ⟨?_, fun y hy hyw hne => ?_⟩⟩
  · rcases mem_setB hx h.nodup hy with rfl | ⟨hy, hne⟩
    · exact heap_setCell_same w u (h.has x hxm)
    · rw [heap_setCell_other _ _ _ hne]; exact h.has y hy
  · rcases mem_setB hx h.nodup hy with rfl | ⟨hy, _⟩
    · exact h.mine x hxm hwr
    · exact h.mine y hy hyw
  · rcases mem_setB hx h.nodup hy with rfl | ⟨hy, _⟩
    · exact h.own x hxm
    · exact h.own y hy
  · refine ⟨by rw [heap_setCell_size]; exact h.keep.size, fun k hk hks => ?_, h.keep.os, h.keep.tape, h.keep.output⟩
    rw [heap_setCell_other _ _ _ (fun e => by
      rcases h.mine x hxm hwr with h1 | h1
      · have : k = x.b := e; omega
      · exact hks (e ▸ h1))]
    exact h.keep.block k hk hks
  · exact (h.rows r hr).1.same fun hne => heap_setCell_other _ _ _ (fun e => (h.rows r hr).2 x hxm hwr hne e.symm)
  · rcases mem_setB hx h.nodup hy with rfl | ⟨hy, _⟩
    · exact (h.rows r hr).2 x hxm hwr hne
    · exact (h.rows r hr).2 y hy hyw hne
theorem Good.cell (h : Good c w H) {i : Nat} {x : Blk} (hx : H[i]? = some x) {o : Nat} {v : Value} (hv : x.cs[o]? = some v) : w.cell? ⟨x.b, o, none⟩ = some v := by
  simp [World.cell?, h.has x (List.mem_of_getElem? hx), hv]
theorem Good.unfrozen (h : Good c w H) {i : Nat} {x : Blk} (hx : H[i]? = some x) {o : Nat} (hf : (Nat.ble x.fz.1 o && Nat.blt o x.fz.2) = false) : w.frozen? ⟨x.b, o, none⟩ = false := by
  have e1 : Nat.ble x.fz.1 o = decide (x.fz.1 ≤ o) := by rw [Bool.eq_iff_iff]; simp
  have e2 : Nat.blt o x.fz.2 = decide (o < x.fz.2) := by rw [Bool.eq_iff_iff]; simp [Nat.blt_eq]
  rw [e1, e2] at hf
  simpa [World.frozen?, h.has x (List.mem_of_getElem? hx)] using hf
end
/-! ### Facts on types, one a type -/
def One (P : Program) (t : TypeId) : Prop := ∀ w, (isAgg t).run P w = .ok false w ∧ (sizeOf t).run P w = .ok 1 w
def Agg (P : Program) (t : TypeId) (n : Nat) : Prop := ∀ w, (isAgg t).run P w = .ok true w ∧ (sizeOf t).run P w = .ok n w
def Fld (P : Program) (s f off : Nat) : Prop := ∀ b o w, (Instr.fieldAt s (.pointer (some ⟨b, o, none⟩)) f).run P w = .ok (.pointer (some ⟨b, o + off, none⟩)) w
def Zro (P : Program) (t : TypeId) (v : Value) : Prop := ∀ w, (zeroValue t).run P w = .ok v w
structure ArrT (P : Program) (t : TypeId) (n sz : Nat) : Prop where
  ok : ∃ e, P.underlying t = some (.array n e) ∧ ∀ w, (sizeOf e).run P w = .ok sz w
structure SlcT (P : Program) (t : TypeId) (sz : Nat) : Prop where
  ok : ∃ e, P.underlying t = some (.slice e) ∧ ∀ w, (sizeOf e).run P w = .ok sz w
theorem Fld.mk {P : Program} {s f off n : Nat} {fs : Array Field} {fd : Field} (hu : P.underlying s = some (.struct fs)) (hf : fs[f]? = some fd) (ho : fd.offset = off)
    (hs : ∀ w, (sizeOf fd.type).run P w = .ok n w) (hn : n ≠ 0) : Fld P s f off := fun b o w => by
  subst ho
  simp [Instr.fieldAt, underlying, hu, hf, Instr.sureAddr, fieldPlace, hs, hn, Addr.add]
section
variable {P : Program} {c : Cx} {ops : Array Oper} {Q : Exit → Act → World → Prop} {N : Nat} {e : Env} {H : List Blk} {rest : List Oper} {d : Nat} {t : TypeId} {p : String} {af : Array Edge}
theorem TL.fieldAddr {x : Operand} {b o s f off : Nat} (hx : ev e x = some (.pointer (some ⟨b, o, none⟩))) (hF : Fld P s f off) (hd : Nat.blt d N = true)
    (h : TL P c ops Q N rest (upd e d (.pointer (some ⟨b, o + off, none⟩))) H) : TL P c ops Q N (⟨some d, .fieldAddr s x f, t, p, af, none⟩ :: rest) e H :=
  TL.value' hd (fun a w ha _ => by simp [execOp, ha.ev hx, hF b o w]) h
theorem TL.load1 (i : Nat) {x : Operand} {b o ty : Nat} {B : Blk} {v : Value} (hx : ev e x = some (.pointer (some ⟨b, o, none⟩))) (hB : H[i]? = some B) (hb : B.b = b) (hL : One P ty) (hv : B.cs[o]? = some v) (hd : Nat.blt d N = true)
    (h : TL P c ops Q N rest (upd e d v) H) : TL P c ops Q N (⟨some d, .load ty x, t, p, af, none⟩ :: rest) e H :=
  TL.value' hd (fun a w ha hw => by
    subst hb
    simp [execOp, ha.ev hx, Instr.loadAt, Instr.sureAddr, loadVar, (hL w).1, hw.cell hB hv]) h
theorem TL.loadN (i : Nat) {x : Operand} {b o ty n : Nat} {B : Blk} {vs : List Value} (hx : ev e x = some (.pointer (some ⟨b, o, none⟩))) (hB : H[i]? = some B) (hb : B.b = b) (hL : Agg P ty n) (hvs : (B.cs.drop o).take n = vs) (hn : vs.length = n) (hd : Nat.blt d N = true)
    (h : TL P c ops Q N rest (upd e d (.agg vs.toArray)) H) : TL P c ops Q N (⟨some d, .load ty x, t, p, af, none⟩ :: rest) e H :=
  TL.value' hd (fun a w ha hw => by
    subst hb
    have hc := run_loadCells_list (P := P) (w := w) (⟨B.b, o, none⟩ : Addr) vs (fun j v hj => by
      have hjn : j < n := by rw [← hn]; exact (List.getElem?_eq_some_iff.1 hj).1
      have : B.cs[o + j]? = some v := by rw [← hvs, List.getElem?_take, if_pos hjn, List.getElem?_drop] at hj; exact hj
      have := hw.cell hB this
      unfold Addr.add
      split
      · rename_i h0; subst h0; simpa using this
      · exact this)
    rw [hn] at hc
    simp [execOp, ha.ev hx, Instr.loadAt, Instr.sureAddr, loadVar, (hL w).1, (hL w).2, hc]) h
def plainV : Value → Bool
  | .agg _ | .tuple _ => false
  | _ => true
/-- cells turned, from o on -/
def setL (cs : List Value) (o : Nat) : List Value → List Value
  | [] => cs
  | v :: r => setL (cs.set o v) (o + 1) r
theorem setL_length : ∀ (vs cs : List Value) (o : Nat), (setL cs o vs).length = cs.length
  | [], _, _ => rfl
  | v :: r, cs, o => by rw [setL, setL_length r]; simp
theorem setB_get : ∀ {H : List Blk} {i : Nat} {x : Blk} (cs : List Value), H[i]? = some x → (setB H i cs)[i]? = some { x with cs := cs }
  | [], _, _, _, h => by simp at h
  | z :: r, 0, x, cs, h => by simp at h; subst h; rfl
  | z :: r, i + 1, x, cs, h => by simp at h; simpa [setB] using setB_get cs h
theorem setB_setB : ∀ (H : List Blk) (i : Nat) (cs cs' : List Value), setB (setB H i cs) i cs' = setB H i cs'
  | [], _, _, _ => rfl
  | _ :: _, 0, _, _ => rfl
  | x :: r, i + 1, cs, cs' => by simp [setB, setB_setB r]
theorem setB_id : ∀ {H : List Blk} {i : Nat} {x : Blk}, H[i]? = some x → setB H i x.cs = H
  | [], _, _, _ => rfl
  | z :: r, 0, x, h => by simp at h; subst h; rfl
  | z :: r, i + 1, x, h => by simp at h; simp [setB, setB_id h]
theorem run_store1 {w : World} {a : Addr} {u v : Value} (hc : w.cell? a = some u) (hf : w.frozen? a = false) (hv : plainV v = true) : (store a v).run P w = .ok () (w.setCell a v) := by
  cases v <;> first | (simp [plainV] at hv; done) | simp [store, Sem.run, hc, hf]
theorem run_storeCells : ∀ (vs : List Value) (j : Nat) {w : World} {H : List Blk} {i : Nat} {B : Blk} {o : Nat}, Good c w H → H[i]? = some B → B.wr = true → B.fz = (0, 0) → (vs.all plainV) = true → o + j + vs.length ≤ B.cs.length →
    ∃ w', (storeCells ⟨B.b, o, none⟩ vs j).run P w = .ok () w' ∧ Good c w' (setB H i (setL B.cs (o + j) vs))
  | [], j, w, H, i, B, o, hw, hB, _, _, _, _ => ⟨w, by simp [storeCells], by rw [setL, setB_id hB]; exact hw⟩
  | v :: r, j, w, H, i, B, o, hw, hB, hwr, hfz, hp, hl => by
    simp only [List.all_cons, Bool.and_eq_true] at hp
    simp only [List.length_cons] at hl
    have hlt : o + j < B.cs.length := by omega
    have hc := hw.cell hB (List.getElem?_eq_getElem hlt)
    have hf := hw.unfrozen hB (o := o + j) (by rw [hfz]; rfl)
    have hadd : (⟨B.b, o, none⟩ : Addr).add j = ⟨B.b, o + j, none⟩ := by
      unfold Addr.add
      split
      · rename_i h0; subst h0; rfl
      · rfl
    have hw1 := hw.setCell hB hwr (o + j) v
    obtain ⟨w', hrun, hgood⟩ := run_storeCells r (j + 1) hw1 (setB_get _ hB) hwr hfz hp.2 (o := o) (by simp; omega)
    refine ⟨w', ?_, ?_⟩
    · simp only [storeCells, hadd]
      have h1 := run_store1 (P := P) hc hf hp.1
      simp only [Sem.run_bind, h1] 
      exact hrun
    · rw [setB_setB] at hgood
      exact hgood
theorem TL.store (i : Nat) {x y : Operand} {b o ty n : Nat} {B : Blk} {v : Value} {vs : List Value} (hx : ev e x = some (.pointer (some ⟨b, o, none⟩))) (hy : ev e y = some v) (hB : H[i]? = some B) (hb : B.b = b) (hwr : B.wr = true)
    (hfz : B.fz = (0, 0)) (hL : ∀ w, (sizeOf ty).run P w = .ok n w) (hv : v.cells = vs.toArray) (hn : vs.length = n) (hp : vs.all plainV = true) (ho : o + vs.length ≤ B.cs.length)
    (h : TL P c ops Q N rest e (setB H i (setL B.cs o vs))) : TL P c ops Q N (⟨none, .store ty x y, t, p, af, none⟩ :: rest) e H := fun a w ha hw =>
  wpList_plain rfl fun K hK => by
    subst hb
    obtain ⟨w', hrun, hgood⟩ := run_storeCells (P := P) vs 0 hw hB hwr hfz hp (o := o) (by omega)
    have hrun : (execOp a.eval ⟨none, .store ty x y, t, p, af, none⟩).run P w = .ok .skip w' := by
      simp [execOp, ha.ev hx, ha.ev hy, Instr.storeAt, Instr.sureAddr, storeVar, hL w, hv, hn, hrun]
    unfold Oper.wp
    rw [hrun, Oper.upon_skip]
    exact hK _ _ (h _ _ ha hgood)
theorem TL.box {x : Operand} {v : Value} {cs : List Value} {ty : TypeId} (hx : ev e x = some v) (hv : v.cells = cs.toArray) (hd : Nat.blt d N = true)
    (h : ∀ b, TL P c ops Q N rest (upd e d (.pointer (some ⟨b, 0, none⟩))) (H ++ [⟨b, ty, cs, (0, 0), true⟩])) : TL P c ops Q N (⟨some d, .box ty x, t, p, af, none⟩ :: rest) e H := fun a w ha hw =>
  wpList_plain rfl fun K hK => by
    have hrun : (execOp a.eval ⟨some d, .box ty x, t, p, af, none⟩).run P w = .ok (.value (.pointer (some ⟨w.heap.size, 0, none⟩))) (w.alloc (.cells cs.toArray ty)) := by
      simp [execOp, ha.ev hx, Instr.box, newVar, newRow, hv]
    unfold Oper.wp
    rw [hrun, Oper.upon_value]
    exact hK _ _ (h _ _ _ (ha.put _ hd) (hw.alloc ty cs (0, 0)))
theorem TL.alloc {v : Value} {cs : List Value} {ty : TypeId} (hz : Zro P ty v) (hv : v.cells = cs.toArray) (hd : Nat.blt d N = true)
    (h : ∀ b, TL P c ops Q N rest (upd e d (.pointer (some ⟨b, 0, none⟩))) (H ++ [⟨b, ty, cs, (0, 0), true⟩])) : TL P c ops Q N (⟨some d, .alloc ty, t, p, af, none⟩ :: rest) e H := fun a w ha hw =>
  wpList_plain rfl fun K hK => by
    have hrun : (execOp a.eval ⟨some d, .alloc ty, t, p, af, none⟩).run P w = .ok (.value (.pointer (some ⟨w.heap.size, 0, none⟩))) (w.alloc (.cells cs.toArray ty)) := by
      simp [execOp, Instr.alloc, newVar, newRow, hv, hz w]
    unfold Oper.wp
    rw [hrun, Oper.upon_value]
    exact hK _ _ (h _ _ _ (ha.put _ hd) (hw.alloc ty cs (0, 0)))
theorem TL.indexArr {x y : Operand} {b o ty n sz : Nat} {k : IntKind} {m : Int} (hx : ev e x = some (.pointer (some ⟨b, o, none⟩))) (hy : ev e y = some (.int k m)) (hT : ArrT P ty n sz) (hm : 0 ≤ m ∧ m < n) (hd : Nat.blt d N = true)
    (h : TL P c ops Q N rest (upd e d (.pointer (some ⟨b, o + m.toNat * sz, none⟩))) H) : TL P c ops Q N (⟨some d, .indexAddr ty x y, t, p, af, none⟩ :: rest) e H :=
  TL.value' hd (fun a w ha _ => by
    obtain ⟨el, hu, hs⟩ := hT.ok
    have hadd : (⟨b, o, none⟩ : Addr).add (m.toNat * sz) = ⟨b, o + m.toNat * sz, none⟩ := by
      unfold Addr.add
      split
      · rename_i h0; rw [h0]; rfl
      · rfl
    simp [execOp, ha.ev hx, ha.ev hy, Instr.indexAt, asIntOf, underlying, hu, Instr.sureAddr, hm.1, hm.2, hs, hadd]) h
theorem TL.indexSl {x y : Operand} {b o ty n cap sz : Nat} {k : IntKind} {m : Int} (hx : ev e x = some (.slice (some ⟨b, o, none⟩) n cap)) (hy : ev e y = some (.int k m)) (hT : SlcT P ty sz) (hm : 0 ≤ m ∧ m < n) (hd : Nat.blt d N = true)
    (h : TL P c ops Q N rest (upd e d (.pointer (some ⟨b, o + m.toNat * sz, none⟩))) H) : TL P c ops Q N (⟨some d, .indexAddr ty x y, t, p, af, none⟩ :: rest) e H :=
  TL.value' hd (fun a w ha _ => by
    obtain ⟨el, hu, hs⟩ := hT.ok
    have hadd : (⟨b, o, none⟩ : Addr).add (m.toNat * sz) = ⟨b, o + m.toNat * sz, none⟩ := by
      unfold Addr.add
      split
      · rename_i h0; rw [h0]; rfl
      · rfl
    simp [execOp, ha.ev hx, ha.ev hy, Instr.indexAt, asIntOf, underlying, hu, hm.1, hm.2, hs, hadd]) h
theorem TL.lenSl {x : Operand} {A : Option Addr} {n cap tt sz : Nat} (hx : ev e x = some (.slice A n cap)) (hT : SlcT P tt sz) (hd : Nat.blt d N = true)
    (h : TL P c ops Q N rest (upd e d (.int .i64 n)) H) : TL P c ops Q N (⟨some d, .call ⟨.builtin .len, #[x], #[tt]⟩, t, p, af, none⟩ :: rest) e H :=
  TL.value' hd (fun a w ha _ => by
    obtain ⟨el, hu, _⟩ := hT.ok
    simp [execOp, resolve, ha.ev hx, invoke, builtin, Builtin.len_, goInt, underlying, hu]) h
theorem TL.lenStr {x : Operand} {s : ByteArray} {tt : TypeId} (hx : ev e x = some (.string s)) (hT : P.underlying tt = some .string) (hd : Nat.blt d N = true)
    (h : TL P c ops Q N rest (upd e d (.int .i64 s.size)) H) : TL P c ops Q N (⟨some d, .call ⟨.builtin .len, #[x], #[tt]⟩, t, p, af, none⟩ :: rest) e H :=
  TL.value' hd (fun a w ha _ => by simp [execOp, resolve, ha.ev hx, invoke, builtin, Builtin.len_, goInt, underlying, hT]) h
theorem TL.min {x y : Operand} {k : IntKind} {m n r : Int} {ts : Array TypeId} (hx : ev e x = some (.int k m)) (hy : ev e y = some (.int k n)) (hd : Nat.blt d N = true) (hr : (if n < m then n else m) = r)
    (h : TL P c ops Q N rest (upd e d (.int k r)) H) : TL P c ops Q N (⟨some d, .call ⟨.builtin .min, #[x, y], ts⟩, t, p, af, none⟩ :: rest) e H :=
  TL.value' hd (fun a w ha _ => by simp [execOp, resolve, ha.ev hx, ha.ev hy, invoke, builtin, Builtin.min_, Builtin.min2, ← hr]) h
theorem TL.max {x y : Operand} {k : IntKind} {m n r : Int} {ts : Array TypeId} (hx : ev e x = some (.int k m)) (hy : ev e y = some (.int k n)) (hd : Nat.blt d N = true) (hr : (if m < n then n else m) = r)
    (h : TL P c ops Q N rest (upd e d (.int k r)) H) : TL P c ops Q N (⟨some d, .call ⟨.builtin .max, #[x, y], ts⟩, t, p, af, none⟩ :: rest) e H :=
  TL.value' hd (fun a w ha _ => by simp [execOp, resolve, ha.ev hx, ha.ev hy, invoke, builtin, Builtin.max_, Builtin.max2, ← hr]) h
end
end Go.Z

set_option linter.unusedSimpArgs false
set_option linter.unusedVariables false
namespace Go.Z
def wids (H : List Blk) : List Nat := (H.filter Blk.wr).map Blk.b
/-- what a callee finds -/
structure Pre (w : World) (H : List Blk) (R : List Row) : Prop where
  has : ∀ x ∈ H, w.heap[x.b]? = some (.cells x.cs.toArray x.t x.fz)
  nodup : (H.map Blk.b).Nodup
  rows : ∀ r ∈ R, RowAt w r ∧ ∀ x ∈ H, x.wr = true → r.cs ≠ [] → x.b ≠ r.b
def cxOf (w : World) (H : List Blk) (R : List Row) : Cx := ⟨w, wids H, H.map Blk.b, R⟩
theorem Pre.good {w : World} {H : List Blk} {R : List Row} (h : Pre w H R) : Good (cxOf w H R) w H :=
  ⟨h.has, h.nodup, fun x hx hwr => .inr (List.mem_map.2 ⟨x, List.mem_filter.2 ⟨hx, by simpa using hwr⟩, rfl⟩), fun x hx => .inr (List.mem_map.2 ⟨x, hx, rfl⟩), Keep.refl _ _, h.rows⟩
/-- how a call ends: with a value and blocks that K names -/
def Ends (c : Cx) (K : Value → List Blk → Prop) : Ending → World → Prop := fun e w' => ∃ v H', e = .returned v ∧ K v H' ∧ Good c w' H'
def Spec (P : Program) (f : FuncId) (args : List Value) (H : List Blk) (R : List Row) (K : Value → List Blk → Prop) : Prop :=
  ∀ w, Pre w H R → Calls P f args.toArray w (Ends (cxOf w H R) K)
theorem Spec.mono {P : Program} {f : FuncId} {args : List Value} {H : List Blk} {R : List Row} {K K' : Value → List Blk → Prop} (h : Spec P f args H R K) (hk : ∀ v H', K v H' → K' v H') : Spec P f args H R K' :=
  fun w hw => (h w hw).mono fun _ _ ⟨v, H', e, k, g⟩ => ⟨v, H', e, hk v H' k, g⟩
def argsE : Nat → List Value → Env
  | _, [] => []
  | i, v :: r => (i, v) :: argsE (i + 1) r
theorem lk_argsE : ∀ (vs : List Value) (i t : Nat) (v : Value), lk (argsE i vs) t = some v → i ≤ t ∧ vs[t - i]? = some v
  | [], _, _, _, h => by cases h
  | u :: r, i, t, v, h => by
    simp only [argsE, lk] at h
    cases hb : Nat.beq i t with
    | true =>
      have hit : i = t := Nat.eq_of_beq_eq_true hb
      subst hit
      simp only [hb, cond_true, Option.some.injEq] at h
      subst h
      simp
    | false =>
      simp only [hb, cond_false] at h
      obtain ⟨h1, h2⟩ := lk_argsE r (i + 1) t v h
      refine ⟨by omega, ?_⟩
      rw [show t - i = (t - (i + 1)) + 1 by omega, List.getElem?_cons_succ]
      exact h2
section
variable {P : Program}
theorem Spec.intro {f : FuncId} {fn : Func} {code : Code} {N : Nat} {args : List Value} {H : List Blk} {R : List Row} {K : Value → List Blk → Prop} (hf : P.funcs[f]? = some fn) (hb : fn.body = some code) (hN : fn.ntmps = N) (hl : Nat.ble args.length N = true)
    (h : ∀ w, Pre w H R → TC P (cxOf w H R) (bodyPost P fn (Ends (cxOf w H R) K)) N code (argsE 0 args) H) : Spec P f args H R K := fun w hw =>
  calls_of_wp hf hb (h w hw _ _ ⟨by have hl' : args.length ≤ N := by simpa using hl
                                    simp [hN]; omega, rfl, fun t v ht => by
    obtain ⟨_, h2⟩ := lk_argsE args 0 t v ht
    simp only [Nat.sub_zero] at h2
    have hlt : t < args.length := (List.getElem?_eq_some_iff.1 h2).1
    have h3 : args[t] = v := by rw [List.getElem?_eq_getElem hlt] at h2; simpa using h2
    simp [Array.getElem?_append, hlt, h3]⟩ hw.good)
variable {c : Cx} {ops : Array Oper} {Q : Exit → Act → World → Prop} {N : Nat} {e : Env} {H : List Blk} {rest : List Oper} {d : Nat} {t : TypeId} {p : String} {af : Array Edge}
theorem mapM1 (f : ResultVar → Sem Value) {x : ResultVar} {v : Value} {w : World} (h1 : (f x).run P w = .ok v w) : (do let vs ← #[x].mapM f; pure (if h : vs.size = 1 then vs[0] else .tuple vs) : Sem Value).run P w = .ok v w := by
  simp [h1]
theorem mapM2 (f : ResultVar → Sem Value) {x y : ResultVar} {v v' : Value} {w : World} (h1 : (f x).run P w = .ok v w) (h2 : (f y).run P w = .ok v' w) :
    (do let vs ← #[x, y].mapM f; pure (if h : vs.size = 1 then vs[0] else .tuple vs) : Sem Value).run P w = .ok (.tuple #[v, v']) w := by
  simp [h1, h2]
theorem mapM3 (f : ResultVar → Sem Value) {x y z : ResultVar} {v v' v'' : Value} {w : World} (h1 : (f x).run P w = .ok v w) (h2 : (f y).run P w = .ok v' w) (h3 : (f z).run P w = .ok v'' w) :
    (do let vs ← #[x, y, z].mapM f; pure (if h : vs.size = 1 then vs[0] else .tuple vs) : Sem Value).run P w = .ok (.tuple #[v, v', v'']) w := by
  simp [h1, h2, h3]
theorem TE.ret0 {fn : Func} {K : Value → List Blk → Prop} {x : Exit} (hx : x = .ret ∨ x = .normal) (hr : fn.results = #[]) (hK : K (.tuple #[]) H) : TE c (bodyPost P fn (Ends c K)) N x e H := fun _ w ha hw => by
  rcases hx with rfl | rfl <;> exact ⟨ha.defers, _, results_none hr _ P w, _, H, rfl, hK, hw⟩
theorem TE.ret1 {fn : Func} {K : Value → List Blk → Prop} {s : Nat} {v : Value} (hr : fn.results = #[.tmp s]) (hv : lk e s = some v) (hK : K v H) : TE c (bodyPost P fn (Ends c K)) N .ret e H := fun _ w ha hw =>
  ⟨ha.defers, _, results_tmp hr _ P w, _, H, rfl, (ha.at_ s v hv).symm ▸ hK, hw⟩
theorem TE.ret2 {fn : Func} {K : Value → List Blk → Prop} {s s' : Nat} {v v' : Value} (hr : fn.results = #[.tmp s, .tmp s']) (hv : lk e s = some v) (hv' : lk e s' = some v') (hK : K (.tuple #[v, v']) H) : TE c (bodyPost P fn (Ends c K)) N .ret e H := fun _ w ha hw =>
  ⟨ha.defers, _, results_tmp2 hr _ P w, _, H, rfl, by rw [ha.at_ s v hv, ha.at_ s' v' hv']; exact hK, hw⟩
/-- one result, if it is read at all -/
inductive ResAt (P : Program) (e : Env) (H : List Blk) : ResultVar → Value → Prop
  | tmp {s : Nat} {v : Value} (h : lk e s = some v) : ResAt P e H (.tmp s) v
  | one {s b o ty : Nat} {B : Blk} {v : Value} (i : Nat) (h : lk e s = some (.pointer (some ⟨b, o, none⟩))) (hB : H[i]? = some B) (hb : B.b = b) (hL : One P ty) (hv : B.cs[o]? = some v) : ResAt P e H (.cell s ty) v
  | agg {s b o ty n : Nat} {B : Blk} {vs : List Value} (i : Nat) (h : lk e s = some (.pointer (some ⟨b, o, none⟩))) (hB : H[i]? = some B) (hb : B.b = b) (hL : Agg P ty n) (hvs : (B.cs.drop o).take n = vs) (hn : vs.length = n) : ResAt P e H (.cell s ty) (.agg vs.toArray)
theorem Good.loadN {w : World} (hw : Good c w H) {i o n : Nat} {B : Blk} {vs : List Value} (hB : H[i]? = some B) (hvs : (B.cs.drop o).take n = vs) (hn : vs.length = n) : (loadCells ⟨B.b, o, none⟩ n).run P w = .ok vs.toArray w := by
  have hc := run_loadCells_list (P := P) (w := w) (⟨B.b, o, none⟩ : Addr) vs (fun j v hj => by
    have hjn : j < n := by rw [← hn]; exact (List.getElem?_eq_some_iff.1 hj).1
    have : B.cs[o + j]? = some v := by rw [← hvs, List.getElem?_take, if_pos hjn, List.getElem?_drop] at hj; exact hj
    have := hw.cell hB this
    unfold Addr.add
    split
    · rename_i h0; subst h0; simpa using this
    · exact this)
  rw [hn] at hc
  exact hc
def resSem (tmps : Array Value) : ResultVar → Sem Value
  | .tmp t => pure (tmps.getD t undef)
  | .cell s ty => do loadVar ty (← asAddr (tmps.getD s undef))
theorem ResAt.run {rv : ResultVar} {v : Value} (h : ResAt P e H rv v) {a : Act} {w : World} (ha : Fits N a e) (hw : Good c w H) : (resSem a.tmps rv).run P w = .ok v w := by
  cases h with
  | tmp h => simp only [resSem, ha.at_ _ _ h]; rfl
  | one i h hB hb hL hv =>
    subst hb
    simp only [resSem, ha.at_ _ _ h]
    simp [asAddr, loadVar, (hL w).1, hw.cell hB hv]
  | agg i h hB hb hL hvs hn =>
    subst hb
    simp only [resSem, ha.at_ _ _ h]
    simp [asAddr, loadVar, (hL w).1, (hL w).2, hw.loadN hB hvs hn]
theorem TE.retA {fn : Func} {K : Value → List Blk → Prop} {rv : ResultVar} {v : Value} (hr : fn.results = #[rv]) (h1 : ResAt P e H rv v) (hK : K v H) : TE c (bodyPost P fn (Ends c K)) N .ret e H := fun a w ha hw => by
  refine ⟨ha.defers, v, ?_, v, H, rfl, hK, hw⟩
  unfold results
  rw [hr]
  exact mapM1 (resSem a.tmps) (h1.run ha hw)
theorem TE.retAB {fn : Func} {K : Value → List Blk → Prop} {rv rv' : ResultVar} {v v' : Value} (hr : fn.results = #[rv, rv']) (h1 : ResAt P e H rv v) (h2 : ResAt P e H rv' v') (hK : K (.tuple #[v, v']) H) : TE c (bodyPost P fn (Ends c K)) N .ret e H := fun a w ha hw => by
  refine ⟨ha.defers, .tuple #[v, v'], ?_, .tuple #[v, v'], H, rfl, hK, hw⟩
  unfold results
  rw [hr]
  exact mapM2 (resSem a.tmps) (h1.run ha hw) (h2.run ha hw)
theorem TE.retABC {fn : Func} {K : Value → List Blk → Prop} {rv rv' rv'' : ResultVar} {v v' v'' : Value} (hr : fn.results = #[rv, rv', rv'']) (h1 : ResAt P e H rv v) (h2 : ResAt P e H rv' v') (h3 : ResAt P e H rv'' v'') (hK : K (.tuple #[v, v', v'']) H) :
    TE c (bodyPost P fn (Ends c K)) N .ret e H := fun a w ha hw => by
  refine ⟨ha.defers, .tuple #[v, v', v''], ?_, .tuple #[v, v', v''], H, rfl, hK, hw⟩
  unfold results
  rw [hr]
  exact mapM3 (resSem a.tmps) (h1.run ha hw) (h2.run ha hw) (h3.run ha hw)
theorem Good.perm {w : World} {H' : List Blk} (h : Good c w H) (hp : H.Perm H') : Good c w H' :=
  ⟨fun x hx => h.has x (hp.mem_iff.2 hx), (hp.map _).nodup_iff.1 h.nodup, fun x hx => h.mine x (hp.mem_iff.2 hx), fun x hx => h.own x (hp.mem_iff.2 hx), h.keep, fun r hr => ⟨(h.rows r hr).1, fun x hx => (h.rows r hr).2 x (hp.mem_iff.2 hx)⟩⟩
theorem mem_wids {H : List Blk} {k : Nat} : k ∈ wids H ↔ ∃ x ∈ H, x.wr = true ∧ x.b = k := by
  simp [wids, and_assoc]
/-- behind a call: what the callee leaves, and what it did not get -/
theorem Good.back {w w' : World} {H1 H2 H' : List Blk} {R1 : List Row} (h : Good c w (H1 ++ H2)) (h' : Good (cxOf w H1 R1) w' H') : Good c w' (H' ++ H2) := by
  have hnd := h.nodup
  rw [List.map_append, List.nodup_append] at hnd
  obtain ⟨_, hn2, hdis⟩ := hnd
  have hsep : ∀ x ∈ H1, ∀ y ∈ H2, x.b ≠ y.b := fun x hx y hy => hdis _ (List.mem_map.2 ⟨x, hx, rfl⟩) _ (List.mem_map.2 ⟨y, hy, rfl⟩)
  have hk2 : ∀ y ∈ H2, w'.heap[y.b]? = w.heap[y.b]? := fun y hy => h'.keep.block _ (h.lt (List.mem_append_right _ hy)) (fun hm => by
    obtain ⟨x, hx, _, e⟩ := mem_wids.1 hm
    exact hsep x hx y hy e)
  have hrow : ∀ r ∈ c.R, r.cs ≠ [] → r.b ∉ wids H1 := fun r hr hne hm => by
    obtain ⟨x, hx, hwr, e⟩ := mem_wids.1 hm
    exact (h.rows r hr).2 x (List.mem_append_left _ hx) hwr hne e
  refine ⟨fun x hx => ?_, ?_, fun x hx hwr => ?_, fun x hx => ?_, ?_, fun r hr => ⟨?_, fun x hx hwr hne => ?_⟩⟩
  · rcases List.mem_append.1 hx with hx | hx
    · exact h'.has x hx
    · rw [hk2 x hx]; exact h.has x (List.mem_append_right _ hx)
  · rw [List.map_append, List.nodup_append]
    refine ⟨h'.nodup, hn2, fun a ha b hb => ?_⟩
    obtain ⟨x, hx, rfl⟩ := List.mem_map.1 ha
    obtain ⟨y, hy, rfl⟩ := List.mem_map.1 hb
    rcases h'.own x hx with h1 | h1
    · have := h.lt (List.mem_append_right H1 hy)
      have h1 : w.heap.size ≤ x.b := h1
      omega
    · obtain ⟨z, hz, e⟩ := List.mem_map.1 h1
      exact e ▸ hsep z hz y hy
  · rcases List.mem_append.1 hx with hx | hx
    · rcases h'.mine x hx hwr with h1 | h1
      · exact .inl (Nat.le_trans h.keep.size h1)
      · obtain ⟨z, hz, hzw, e⟩ := mem_wids.1 h1
        exact e ▸ h.mine z (List.mem_append_left _ hz) hzw
    · exact h.mine x (List.mem_append_right _ hx) hwr
  · rcases List.mem_append.1 hx with hx | hx
    · rcases h'.own x hx with h1 | h1
      · exact .inl (Nat.le_trans h.keep.size h1)
      · obtain ⟨z, hz, e⟩ := List.mem_map.1 h1
        exact e ▸ h.own z (List.mem_append_left _ hz)
    · exact h.own x (List.mem_append_right _ hx)
  · refine ⟨Nat.le_trans h.keep.size h'.keep.size, fun k hk hks => (h'.keep.block k (Nat.lt_of_lt_of_le hk h.keep.size) (fun hm => ?_)).trans (h.keep.block k hk hks), h'.keep.os.trans h.keep.os, h'.keep.tape.trans h.keep.tape, h'.keep.output.trans h.keep.output⟩
    obtain ⟨z, hz, hzw, e⟩ := mem_wids.1 hm
    rcases h.mine z (List.mem_append_left _ hz) hzw with h1 | h1
    · omega
    · exact hks (e ▸ h1)
  · exact (h.rows r hr).1.same fun hne => h'.keep.block _ ((h.rows r hr).1.lt hne) (hrow r hr hne)
  · rcases List.mem_append.1 hx with hx | hx
    · rcases h'.mine x hx hwr with h1 | h1
      · have h1 : w.heap.size ≤ x.b := h1
        have := (h.rows r hr).1.lt hne
        omega
      · obtain ⟨z, hz, hzw, e⟩ := mem_wids.1 h1
        exact e ▸ (h.rows r hr).2 z (List.mem_append_left _ hz) hzw hne
    · exact (h.rows r hr).2 x (List.mem_append_right _ hx) hwr hne
/-- the blocks at these places, and the others -/
def takeB : List Nat → List Blk → Option (List Blk × List Blk)
  | [], H => some ([], H)
  | i :: is, H => match H[i]?, takeB is (H.eraseIdx i) with
    | some x, some (A, B) => some (x :: A, B)
    | _, _ => none
theorem perm_erase : ∀ (H : List Blk) (i : Nat) (h : i < H.length), H.Perm (H[i] :: H.eraseIdx i)
  | [], _, h => by simp at h
  | x :: r, 0, _ => by simp
  | x :: r, i + 1, h => by
    have h' : i < r.length := by simpa using h
    have := (perm_erase r i h').cons x
    simpa using this.trans (List.Perm.swap _ _ _)
theorem takeB_perm : ∀ {is : List Nat} {H A B : List Blk}, takeB is H = some (A, B) → H.Perm (A ++ B)
  | [], H, A, B, h => by simp only [takeB, Option.some.injEq, Prod.mk.injEq] at h; obtain ⟨rfl, rfl⟩ := h; exact List.Perm.refl _
  | i :: is, H, A, B, h => by
    simp only [takeB] at h
    split at h
    · rename_i x A' B' hx ht
      simp only [Option.some.injEq, Prod.mk.injEq] at h
      obtain ⟨rfl, rfl⟩ := h
      have hlt : i < H.length := (List.getElem?_eq_some_iff.1 hx).1
      have hxe : H[i] = x := (List.getElem?_eq_some_iff.1 hx).2
      have h1 : H.Perm (x :: H.eraseIdx i) := hxe ▸ perm_erase H i hlt
      exact h1.trans ((takeB_perm ht).cons x)
    · cases h
theorem TL.call (is : List Nat) {f : FuncId} {dst : Option Nat} {xs : Array Operand} {ts : Array TypeId} {vs : List Value} {H1 H2 : List Blk} {R1 : List Row} {K : Value → List Blk → Prop}
    (hcall : ∀ args w, (callFunc f args).run P w = .ok (.enter f args) w) (hargs : evs e xs.toList = some vs) (htake : takeB is H = some (H1, H2)) (hsp : Spec P f vs H1 R1 K)
    (hrows : ∀ w, Good c w H → ∀ r ∈ R1, RowAt w r ∧ ∀ x ∈ H1, x.wr = true → r.cs ≠ [] → x.b ≠ r.b) (hd : ∀ t, dst = some t → Nat.blt t N = true)
    (h : ∀ v H', K v H' → TL P c ops Q N rest (updO e dst v) (H' ++ H2)) : TL P c ops Q N (⟨dst, .call ⟨.value (.func f), xs, ts⟩, t, p, af, none⟩ :: rest) e H := fun a w ha hw =>
  wpList_plain rfl fun K0 hK0 => by
    have hrun : (execOp a.eval ⟨dst, .call ⟨.value (.func f), xs, ts⟩, t, p, af, none⟩).run P w = .ok (.enter f vs.toArray) w := by
      have h1 : xs.map a.eval = vs.toArray := by
        rw [← ha.evs hargs]
        exact Array.toList_inj.1 (by rw [Array.toList_map])
      simp [execOp, resolve, h1, Act.eval, Deferred.ofValue, invoke, hcall]
    unfold Oper.wp
    rw [hrun, Oper.upon_enter]
    have hp := takeB_perm htake
    have hg := hw.perm hp
    have hpre : Pre w H1 R1 := by
      have hs := hg.heap_of (List.sublist_append_left H1 H2)
      exact ⟨hs.has, hs.nodup, fun r hr => hrows w hw r hr⟩
    refine (hsp w hpre).mono ?_
    rintro en w' ⟨v, H', rfl, hk, hg'⟩
    exact hK0 _ _ (h v H' hk _ _ (ha.putO v hd) (hg.back hg'))
/-! ### Fewer blocks -/
def maskB : List Bool → List Blk → List Blk
  | true :: m, x :: r => x :: maskB m r
  | false :: m, _ :: r => maskB m r
  | _, _ => []
theorem maskB_sub : ∀ (m : List Bool) (H : List Blk), (maskB m H).Sublist H
  | true :: m, x :: r => (maskB_sub m r).cons_cons x
  | false :: m, x :: r => (maskB_sub m r).cons x
  | [], H => by cases H <;> simp [maskB]
  | true :: _, [] => by simp [maskB]
  | false :: _, [] => by simp [maskB]
theorem TC.mask {code : Code} (m : List Bool) {H' : List Blk} (hm : maskB m H = H') (h : TC P c Q N code e H') : TC P c Q N code e H := fun a w ha hw => h a w ha (hw.heap_of (hm ▸ maskB_sub m H))
theorem TL.mask {l : List Oper} (m : List Bool) {H' : List Blk} (hm : maskB m H = H') (h : TL P c ops Q N l e H') : TL P c ops Q N l e H := fun a w ha hw => h a w ha (hw.heap_of (hm ▸ maskB_sub m H))
theorem TE.mask {x : Exit} (m : List Bool) {H' : List Blk} (hm : maskB m H = H') (h : TE c Q N x e H') : TE c Q N x e H := fun a w ha hw => h a w ha (hw.heap_of (hm ▸ maskB_sub m H))
theorem TC.permB {code : Code} {H' : List Blk} (hp : H.Perm H') (h : TC P c Q N code e H') : TC P c Q N code e H := fun a w ha hw => h a w ha (hw.perm hp)
/-! ### Loops -/
def AtSome {σ : Type} (c : Cx) (N : Nat) (E : σ → Env) (HH : σ → List Blk) (J : σ → Prop) : Act → World → Prop := fun a w => ∃ s, J s ∧ Fits N a (E s) ∧ Good c w (HH s)
theorem least {p : Nat → Prop} (h : ∃ n, p n) : ∃ n, p n ∧ ∀ m, p m → n ≤ m := by
  obtain ⟨n, hn⟩ := h
  induction n using Nat.strongRecOn with
  | _ n ih =>
    by_cases hm : ∃ m, m < n ∧ p m
    · obtain ⟨m, hlt, hm⟩ := hm
      exact ih m hlt hm
    · exact ⟨n, hn, fun m hp => Nat.le_of_not_lt fun hlt => hm ⟨m, hlt, hp⟩⟩
theorem TC.loop {body : Code} {σ : Type} (E : σ → Env) (HH : σ → List Blk) (I : σ → Prop) (μ : σ → Nat) (s0 : σ) (hI : I s0) (ks : List Nat) (he : sel e ks = some (E s0)) (hH : H = HH s0)
    (round : ∀ s, I s → TC P c (Exit.then (AtSome c N E HH fun s' => I s' ∧ μ s' < μ s) Q) N body (E s) (HH s)) : TC P c Q N (.loop body) e H := fun a w ha hw => by
  subst hH
  let p : Act → World → Nat → Prop := fun a w n => ∃ s, I s ∧ μ s = n ∧ Fits N a (E s) ∧ Good c w (HH s)
  have hp : ∀ a w, (∃ n, p a w n) → p a w (Classical.epsilon fun n => p a w n ∧ ∀ m, p a w m → n ≤ m) ∧ ∀ m, p a w m → (Classical.epsilon fun n => p a w n ∧ ∀ m, p a w m → n ≤ m) ≤ m :=
    fun a w h => Classical.epsilon_spec (least h)
  refine wp_loop (fun a w => ∃ n, p a w n) (fun a w => Classical.epsilon fun n => p a w n ∧ ∀ m, p a w m → n ≤ m) ⟨_, s0, hI, rfl, ha.weaken (sel_lk he), hw⟩ (fun a w hIa => ?_)
  obtain ⟨s, hs, hm, ha', hw'⟩ := (hp a w hIa).1
  refine wp_mono (round s hs a w ha' hw') (fun ex a1 w1 hq => ?_)
  cases ex with
  | normal =>
    obtain ⟨s', ⟨hI', hlt⟩, h1, h2⟩ := hq
    have hx : p a1 w1 (μ s') := ⟨s', hI', rfl, h1, h2⟩
    exact ⟨⟨_, hx⟩, Nat.lt_of_le_of_lt ((hp a1 w1 ⟨_, hx⟩).2 _ hx) (hm ▸ hlt)⟩
  | _ => exact hq
theorem TE.again {σ : Type} {E : σ → Env} {HH : σ → List Blk} {J : σ → Prop} (s' : σ) (hJ : J s') (ks : List Nat) (he : sel e ks = some (E s')) (hH : H = HH s') : TE c (Exit.then (AtSome c N E HH J) Q) N .normal e H :=
  fun _ _ ha hw => ⟨s', hJ, ha.weaken (sel_lk he), hH ▸ hw⟩
end
end Go.Z

set_option linter.unusedSimpArgs false
set_option linter.unusedVariables false
namespace Go.Z
section
variable {P : Program} {c : Cx} {ops : Array Oper} {Q : Exit → Act → World → Prop} {N : Nat} {e : Env} {H : List Blk} {rest : List Oper} {d : Nat} {t : TypeId} {p : String} {af : Array Edge}
/-! ### Guards -/
theorem yielded_of (ops : Array Oper) {a : Act} {j s : Nat} {b : Bool} (hj : (ops[j]?).bind (·.dst) = some s) (ha : Fits N a e) (hs : lk e s = some (.bool b)) : yielded ops a.tmps j = some b := by
  have h1 := ha.at_ s _ hs
  unfold yielded
  rw [hj]
  have h2 : a.tmps[s]? = some (.bool b) := by
    cases h3 : a.tmps[s]? with
    | none => simp [h3, undef] at h1
    | some v => simp [h3] at h1; rw [h1]
  simp [h2]
theorem TL.guardY {dst : Option Nat} {op : Op} {j s : Nat} {want b : Bool} (hj : (ops[j]?).bind (·.dst) = some s) (hs : lk e s = some (.bool b)) (hb : b = want) (h : TL P c ops Q N (⟨dst, op, t, p, af, none⟩ :: rest) e H) :
    TL P c ops Q N (⟨dst, op, t, p, af, some (j, want)⟩ :: rest) e H := fun a w ha hw => by
  subst hb
  have h1 := h a w ha hw
  have h2 : Region.wanted ⟨dst, op, t, p, af, some (j, b)⟩ (yielded ops a.tmps) = true := by simp [Region.wanted, yielded_of ops hj ha hs]
  have h3 : Region.wanted ⟨dst, op, t, p, af, none⟩ (yielded ops a.tmps) = true := rfl
  unfold wpList at h1 ⊢
  rw [if_pos h3] at h1
  rw [if_pos h2]
  exact h1
theorem TL.guardN {dst : Option Nat} {op : Op} {j s : Nat} {want b val : Bool} (hj : (ops[j]?).bind (·.dst) = some s) (hs : lk e s = some (.bool b)) (hv : b = val) (hb : (val == want) = false) (hd : ∀ t, dst = some t → Nat.blt t N = true) (h : TL P c ops Q N rest (updO e dst undef) H) :
    TL P c ops Q N (⟨dst, op, t, p, af, some (j, want)⟩ :: rest) e H := fun a w ha hw => by
  have h2 : Region.wanted ⟨dst, op, t, p, af, some (j, want)⟩ (yielded ops a.tmps) = false := by
    have : b ≠ want := by subst hv; simpa using hb
    simp [Region.wanted, yielded_of ops hj ha hs, this]
  unfold wpList
  rw [if_neg (by simp [h2])]
  exact h _ _ (ha.putO undef hd) hw
/-- the operation that it hangs on was passed over itself -/
theorem TL.guardU {dst : Option Nat} {op : Op} {j s : Nat} {want : Bool} (hj : (ops[j]?).bind (·.dst) = some s) (hs : lk e s = some undef) (hd : ∀ t, dst = some t → Nat.blt t N = true) (h : TL P c ops Q N rest (updO e dst undef) H) :
    TL P c ops Q N (⟨dst, op, t, p, af, some (j, want)⟩ :: rest) e H := fun a w ha hw => by
  have h1 := ha.at_ s _ hs
  have h2 : Region.wanted ⟨dst, op, t, p, af, some (j, want)⟩ (yielded ops a.tmps) = false := by
    have h3 : yielded ops a.tmps j = none := by
      unfold yielded
      rw [hj]
      cases h4 : a.tmps[s]? with
      | none => simp [h4]
      | some v =>
        simp only [h4, Array.getD_eq_getD_getElem?, Option.getD_some] at h1
        simp [h4, h1, undef]
    simp [Region.wanted, h3]
  unfold wpList
  rw [if_neg (by simp [h2])]
  exact h _ _ (ha.putO undef hd) hw
/-! ### Cuts -/
def AtE (c : Cx) (N : Nat) (e : Env) (H : List Blk) : Act → World → Prop := fun a w => Fits N a e ∧ Good c w H
/-- x, and behind it y, with just these slots and blocks between -/
theorem TC.cut {x y : Code} (e' : Env) (H' : List Blk) (hx : TC P c (Exit.then (AtE c N e' H') Q) N x e H) (hy : TC P c Q N y e' H') : TC P c Q N (.seq x y) e H := fun a w ha hw =>
  wp_seq (wp_mono (hx a w ha hw) fun ex a' w' hq => by
    cases ex with
    | normal => exact hy a' w' hq.1 hq.2
    | _ => exact hq)
/-- the same, where what is between hangs on something -/
theorem TC.cutX {σ : Type} {x y : Code} (E : σ → Env) (HH : σ → List Blk) (J : σ → Prop) (hx : TC P c (Exit.then (AtSome c N E HH J) Q) N x e H) (hy : ∀ s, J s → TC P c Q N y (E s) (HH s)) : TC P c Q N (.seq x y) e H := fun a w ha hw =>
  wp_seq (wp_mono (hx a w ha hw) fun ex a' w' hq => by
    cases ex with
    | normal =>
      obtain ⟨s, hJ, h1, h2⟩ := hq
      exact hy s hJ a' w' h1 h2
    | _ => exact hq)
theorem TE.hit {e' : Env} {H' : List Blk} (ks : List Nat) (he : sel e ks = some e') (hH : H = H') : TE c (Exit.then (AtE c N e' H') Q) N .normal e H :=
  fun _ _ ha hw => ⟨ha.weaken (sel_lk he), hH ▸ hw⟩
theorem TL.hit {e' : Env} {H' : List Blk} (ks : List Nat) (he : sel e ks = some e') (hH : H = H') : TL P c ops (Exit.then (AtE c N e' H') Q) N [] e H :=
  fun _ _ ha hw => ⟨ha.weaken (sel_lk he), hH ▸ hw⟩
theorem TC.skipN {K : Act → World → Prop} (h : TE c (Exit.then K Q) N .normal e H) : TC P c (Exit.then K Q) N .skip e H := TC.skipE h
/-! ### A block's exits -/
theorem TE.inN {id : Nat} (h : TE c Q N .normal e H) : TE c (Exit.inBlock id Q) N .normal e H := h
theorem TE.inExit {id : Nat} (h : TE c Q N .normal e H) : TE c (Exit.inBlock id Q) N (.exit id) e H := fun a w ha hw => by
  have := h a w ha hw
  simpa [Exit.inBlock] using this
theorem TE.inOther {id id' : Nat} (hne : Nat.beq id' id = false) (h : TE c Q N (.exit id') e H) : TE c (Exit.inBlock id Q) N (.exit id') e H := fun a w ha hw => by
  have := h a w ha hw
  have hne' : id' ≠ id := fun he => by subst he; simp at hne
  simpa [Exit.inBlock, hne'] using this
theorem TE.thenExit {K : Act → World → Prop} {id : Nat} (h : TE c Q N (.exit id) e H) : TE c (Exit.then K Q) N (.exit id) e H := h
theorem TE.thenRet {K : Act → World → Prop} (h : TE c Q N .ret e H) : TE c (Exit.then K Q) N .ret e H := h
theorem TE.inRet {id : Nat} (h : TE c Q N .ret e H) : TE c (Exit.inBlock id Q) N .ret e H := h
/-! ### Values with parts -/
def vcells : Value → List Value
  | .agg cs => cs.toList
  | v => [v]
theorem vcells_eq (v : Value) : v.cells = (vcells v).toArray := by cases v <;> simp [Value.cells, vcells]
def fillL (pl : List (Nat × Nat)) (cs : List Value) : List (Nat × Value) → Option (List Value)
  | [] => some cs
  | (i, v) :: r => match pl[i]? with
    | some (o, s) => bif Nat.beq (vcells v).length s && Nat.ble (o + s) cs.length then fillL pl (setL cs o (vcells v)) r else none
    | none => none
theorem fold_setL : ∀ (vs : List Value) (cs : Array Value) (o k : Nat), ((vs.zipIdx k).foldl (fun cs (x : Value × Nat) => cs.setIfInBounds (o + x.2) x.1) cs).toList = setL cs.toList (o + k) vs
  | [], _, _, _ => rfl
  | v :: r, cs, o, k => by
    rw [List.zipIdx_cons, List.foldl_cons, fold_setL r _ o (k + 1), setL]
    simp [Nat.add_assoc]
theorem fill_of (pl : List (Nat × Nat)) : ∀ (parts : List (Nat × Value)) (cs out : List Value), fillL pl cs parts = some out → Instr.fill (fun i => pl[i]?) cs.toArray parts = some out.toArray
  | [], cs, out, h => by simp only [fillL, Option.some.injEq] at h; subst h; rfl
  | (i, v) :: r, cs, out, h => by
    simp only [fillL] at h
    split at h
    · rename_i o s hp
      cases hb : (Nat.beq (vcells v).length s && Nat.ble (o + s) cs.length) with
      | false => simp [hb] at h
      | true =>
        simp only [hb, cond_true] at h
        simp only [Bool.and_eq_true] at hb
        have h1 : (vcells v).length = s := Nat.eq_of_beq_eq_true hb.1
        have h2 : o + s ≤ cs.length := by simpa using hb.2
        have ih := fill_of pl r _ _ h
        have e : (v.cells.zipIdx.foldl (fun cs (x : Value × Nat) => cs.setIfInBounds (o + x.2) x.1) cs.toArray) = (setL cs o (vcells v)).toArray := by
          apply Array.toList_inj.1
          rw [vcells_eq]
          have := fold_setL (vcells v) cs.toArray o 0
          simpa using this
        simp only [Instr.fill, hp]
        have hs : v.cells.size = s := by rw [vcells_eq]; simpa using h1
        have hc : (decide (v.cells.size ≠ s) || decide (o + v.cells.size > cs.toArray.size)) = false := by
          simp [hs]; omega
        rw [if_neg (by simp only [hc]; simp)]
        rw [← ih, ← e]
    · cases h
structure Bld (P : Program) (t : TypeId) (zero : List Value) (pl : List (Nat × Nat)) : Prop where
  ok : ∀ w (parts : Array (Nat × Value)) out, Instr.fill (fun i => pl[i]?) zero.toArray parts.toList = some out → (Instr.build t parts).run P w = .ok (.agg out) w
def evp (e : Env) : List (Nat × Operand) → Option (List (Nat × Value))
  | [] => some []
  | (i, x) :: r => match ev e x, evp e r with
    | some v, some vs => some ((i, v) :: vs)
    | _, _ => none
theorem Fits.evp {a : Act} (h : Fits N a e) : ∀ {xs : List (Nat × Operand)} {vs : List (Nat × Value)}, evp e xs = some vs → xs.map (fun (i, x) => (i, a.eval x)) = vs
  | [], vs, hx => by simpa [Z.evp] using hx
  | (i, x) :: r, vs, hx => by
    simp only [Z.evp] at hx
    split at hx
    · rename_i v us h1 h2
      simp only [Option.some.injEq] at hx
      subst hx
      simp [h.ev h1, h.evp h2]
    · cases hx
theorem TL.build {ty : TypeId} {parts : Array (Nat × Operand)} {zero : List Value} {pl : List (Nat × Nat)} {vs : List (Nat × Value)} {out : List Value} (hB : Bld P ty zero pl) (hvs : evp e parts.toList = some vs) (hf : fillL pl zero vs = some out) (hd : Nat.blt d N = true)
    (h : TL P c ops Q N rest (upd e d (.agg out.toArray)) H) : TL P c ops Q N (⟨some d, .build ty parts, t, p, af, none⟩ :: rest) e H :=
  TL.value' hd (fun a w ha _ => by
    have h1 : parts.map (fun (i, x) => (i, a.eval x)) = vs.toArray := Array.toList_inj.1 (by rw [Array.toList_map]; exact ha.evp hvs)
    have h2 := hB.ok w vs.toArray _ (fill_of pl vs zero out hf)
    simp [execOp, h1, h2]) h
/-- a part of a value: one cell, several -/
def PartS (P : Program) (t : TypeId) (f : Nat) (ft : TypeId) (off : Nat) : Prop := ∃ fs fd, P.underlying t = some (.struct fs) ∧ fs[f]? = some fd ∧ fd.type = ft ∧ fd.offset = off
theorem TL.field1 {x : Operand} {ty f ft off : Nat} {cs : List Value} {v : Value} (hx : ev e x = some (.agg cs.toArray)) (hp : PartS P ty f ft off) (hL : One P ft) (hv : cs[off]? = some v) (hd : Nat.blt d N = true)
    (h : TL P c ops Q N rest (upd e d v) H) : TL P c ops Q N (⟨some d, .field ty x f, t, p, af, none⟩ :: rest) e H :=
  TL.value' hd (fun a w ha _ => by
    obtain ⟨fs, fd, hu, hf, rfl, rfl⟩ := hp
    simp [execOp, ha.ev hx, Instr.field, underlying, hu, hf, asAgg, part, (hL w).1, hv]) h
theorem TL.fieldN {x : Operand} {ty f ft off n : Nat} {cs vs : List Value} (hx : ev e x = some (.agg cs.toArray)) (hp : PartS P ty f ft off) (hL : Agg P ft n) (hv : (cs.drop off).take n = vs) (hd : Nat.blt d N = true)
    (h : TL P c ops Q N rest (upd e d (.agg vs.toArray)) H) : TL P c ops Q N (⟨some d, .field ty x f, t, p, af, none⟩ :: rest) e H :=
  TL.value' hd (fun a w ha _ => by
    obtain ⟨fs, fd, hu, hf, rfl, rfl⟩ := hp
    simp [execOp, ha.ev hx, Instr.field, underlying, hu, hf, asAgg, part, (hL w).1, (hL w).2, hv]) h
structure ArrE (P : Program) (t : TypeId) (n el : Nat) : Prop where
  ok : P.underlying t = some (.array n el)
theorem TL.index1 {x y : Operand} {ty n el : Nat} {k : IntKind} {m : Int} {cs : List Value} {v : Value} (hx : ev e x = some (.agg cs.toArray)) (hy : ev e y = some (.int k m)) (hT : ArrE P ty n el) (hL : One P el) (hm : 0 ≤ m ∧ m < n) (hv : cs[m.toNat]? = some v) (hd : Nat.blt d N = true)
    (h : TL P c ops Q N rest (upd e d v) H) : TL P c ops Q N (⟨some d, .index ty x y, t, p, af, none⟩ :: rest) e H :=
  TL.value' hd (fun a w ha _ => by
    simp [execOp, ha.ev hx, ha.ev hy, Instr.index, asIntOf, underlying, hT.ok, hm.1, hm.2, part, (hL w).1, (hL w).2, hv]) h
theorem TL.indexStr {x y : Operand} {ty : Nat} {k : IntKind} {m : Int} {s : ByteArray} {u : UInt8} (hx : ev e x = some (.string s)) (hy : ev e y = some (.int k m)) (hT : P.underlying ty = some .string) (hm : 0 ≤ m) (hv : s[m.toNat]? = some u) (hd : Nat.blt d N = true)
    (h : TL P c ops Q N rest (upd e d (.int .u8 u.toNat)) H) : TL P c ops Q N (⟨some d, .index ty x y, t, p, af, none⟩ :: rest) e H :=
  TL.value' hd (fun a w ha _ => by
    simp [execOp, ha.ev hx, ha.ev hy, Instr.index, asIntOf, underlying, hT, hm, hv]) h
end
end Go.Z

set_option linter.unusedSimpArgs false
set_option linter.unusedVariables false
namespace Go.Z
theorem Keep.mono {S S' : List Nat} {w w' : World} (h : Keep S w w') (hs : ∀ k, k ∈ S → k ∈ S') : Keep S' w w' :=
  ⟨h.size, fun k hk hn => h.block k hk (fun hm => hn (hs k hm)), h.os, h.tape, h.output⟩
theorem Keep.ext {S : List Nat} {w w' : World} (h : Keep [] w w') : Keep S w w' := h.mono (fun k hk => by cases hk)
theorem Good.ext {c : Cx} {w w' : World} {H : List Blk} (h : Good c w H) (hk : Keep [] w w') : Good c w' H :=
  ⟨fun x hx => (hk.block _ (h.lt hx) (by simp)).trans (h.has x hx), h.nodup, h.mine, h.own, h.keep.trans hk.ext, fun r hr => ⟨(h.rows r hr).1.same fun hne => hk.block _ ((h.rows r hr).1.lt hne) (by simp), (h.rows r hr).2⟩⟩
/-- what an operation of a drawn region may turn: these blocks, and, if it says so, those that are made in the region -/
structure Tn where
  l : Nat → List Nat
  nw : Nat → Bool
  n0 : Nat
def Tn.at (T : Tn) (j k : Nat) : Prop := k ∈ T.l j ∨ (T.nw j = true ∧ T.n0 ≤ k)
structure KeepP (U : Nat → Prop) (w w' : World) : Prop where
  size : w.heap.size ≤ w'.heap.size
  block : ∀ k, k < w.heap.size → ¬ U k → w'.heap[k]? = w.heap[k]?
  os : w'.os = w.os
  tape : w'.tape = w.tape
  output : w'.output = w.output
theorem Keep.toP {S : List Nat} {U : Nat → Prop} {w w' : World} (h : Keep S w w') (hs : ∀ k, k ∈ S → U k) : KeepP U w w' := ⟨h.size, fun k hk hn => h.block k hk (fun hm => hn (hs k hm)), h.os, h.tape, h.output⟩
theorem KeepP.trans {U : Nat → Prop} {a b c : World} (h : KeepP U a b) (k : KeepP U b c) : KeepP U a c :=
  ⟨Nat.le_trans h.size k.size, fun i hi hs => (k.block i (Nat.lt_of_lt_of_le hi h.size) hs).trans (h.block i hi hs), k.os.trans h.os, k.tape.trans h.tape, k.output.trans h.output⟩
theorem KeepP.mono {U U' : Nat → Prop} {w w' : World} (h : KeepP U w w') (hs : ∀ k, U k → U' k) : KeepP U' w w' := ⟨h.size, fun k hk hn => h.block k hk (fun hm => hn (hs k hm)), h.os, h.tape, h.output⟩
theorem KeepP.toK {U : Nat → Prop} {w w' : World} (h : KeepP U w w') (hU : ∀ k, ¬ U k) : Keep [] w w' := ⟨h.size, fun k hk _ => h.block k hk (hU k), h.os, h.tape, h.output⟩
section
variable {P : Program}
def runsTo (P : Program) (o : Oper) (a : Act) (w : World) (K : Value → World → Prop) : Prop :=
  match (execOp a.eval o).run P w with
  | .ok (.value v) w' => K v w'
  | .ok .skip w' => K undef w'
  | .ok (.enter f args) w' => Calls P f args w' (fun e w'' => ∃ v, e = .returned v ∧ K v w'')
  | .ok (.row row args) w' => Rows P row args w' K
  | _ => False
def stepO (P : Program) (ops : Array Oper) (o : Oper) (a : Act) (w : World) (K : Value → World → Prop) : Prop :=
  if Region.wanted o (yielded ops a.tmps) then runsTo P o a w K else K undef w
theorem runsTo.mono {o : Oper} {a : Act} {w : World} {K K' : Value → World → Prop} (h : runsTo P o a w K) (hk : ∀ v w', K v w' → K' v w') : runsTo P o a w K' := by
  unfold runsTo at *
  split <;> simp_all
  · rename_i f args w' _
    exact h.mono fun e w'' ⟨v, he, hv⟩ => ⟨v, he, hk _ _ hv⟩
  · exact h.mono hk
theorem stepO.mono {ops : Array Oper} {o : Oper} {a : Act} {w : World} {K K' : Value → World → Prop} (h : stepO P ops o a w K) (hk : ∀ v w', K v w' → K' v w') : stepO P ops o a w K' := by
  unfold stepO at *
  split
  · rename_i hw; rw [if_pos hw] at h; exact h.mono hk
  · rename_i hw; rw [if_neg hw] at h; exact hk _ _ h
theorem stepO_put {ops : Array Oper} {o : Oper} (hs : ∀ cs b, o.op ≠ .select cs b) {a : Act} {dst : Option Nat} {v : Value} (h : ∀ d, dst = some d → d ∉ o.looksAt ops) {w : World} {K : Value → World → Prop} :
    stepO P ops o (a.put dst v) w K ↔ stepO P ops o a w K := by
  unfold stepO runsTo
  rw [wanted_put o a dst v h, execOp_put o hs a dst v h]
/-- out of a law on one operation -/
theorem stepO_of_list {ops : Array Oper} {o : Oper} {a : Act} {w : World} {J : Act → World → Prop} (hJ : ∀ a w, J a w → a.defers = []) (h : wpList P ops (Exit.then J fun _ _ _ => False) [o] a w) :
    stepO P ops o a w (fun v w' => J (a.put o.dst v) w') := by
  have hlo : ¬ LetsOut (Exit.then J fun _ _ _ => False) := fun ⟨_, _, hx⟩ => hx
  unfold stepO
  unfold wpList at h
  split
  · rename_i hw
    rw [if_pos hw] at h
    rcases h with h | ⟨_, h⟩
    · unfold Oper.wp at h
      unfold runsTo
      generalize (execOp a.eval o).run P w = r at h
      cases r with
      | ok n w' =>
        cases n <;> simp only [Oper.upon] at h ⊢ <;> try exact h
        case defer dd =>
          have h1 := hJ _ _ h
          cases hd : o.dst <;> simp [Act.put, hd] at h1
        case enter f args =>
          refine h.mono fun en w'' hq => ?_
          cases en with
          | returned v => exact ⟨v, rfl, hq⟩
          | panicked ch => exact hq.elim
          | outgrown => exact absurd hq hlo
      | halt x w' =>
        cases x <;> simp only [Oper.upon] at h ⊢ <;> exact h
    · exact absurd h hlo
  · rename_i hw
    rw [if_neg hw] at h
    exact h
variable {ops : Array Oper} {K : Act → World → Prop} {S : Tn}
def wpX (P : Program) (ops : Array Oper) (K : Act → World → Prop) (S : Tn) : Nat → Array Bool → Act → World → Prop
  | 0, listed, a, w => ∀ w0, Keep [] w w0 → Region.ready .any ops listed = [] ∧ K a w0
  | n + 1, listed, a, w => ∀ w0, Keep [] w w0 → (Region.ready .any ops listed = [] → K a w0) ∧
    ∀ i ∈ Region.ready .any ops listed, ∃ o, ops[i]? = some o ∧ stepO P ops o a w0 (fun v w' => KeepP (S.at i) w0 w' ∧ wpX P ops K S n (listed.setIfInBounds i true) (a.put o.dst v) w')
theorem wpOp_of_stepO {Q : Exit → Act → World → Prop} {i : Nat} {o : Oper} (hi : ops[i]? = some o) {a : Act} {w : World} {K' : Act → World → Prop} (h : stepO P ops o a w (fun v w' => K' (a.put o.dst v) w')) : wpOp P ops Q i K' a w := by
  unfold wpOp
  simp only [hi]
  unfold stepO at h
  split
  · rename_i hw
    rw [if_pos hw] at h
    refine .inl ?_
    unfold Oper.wp
    unfold runsTo at h
    generalize (execOp a.eval o).run P w = r at h
    cases r with
    | ok n w' =>
      cases n <;> simp only [Oper.upon] at h ⊢ <;> try exact h
      refine h.mono fun en w'' hq => ?_
      obtain ⟨v, rfl, hv⟩ := hq
      exact hv
    | halt x w' => cases x <;> simp only at h
  · rename_i hw
    rw [if_neg hw] at h
    exact h
theorem wpAny_of_wpX {Q : Exit → Act → World → Prop} : ∀ (n : Nat) (listed : Array Bool) (a : Act) (w : World), wpX P ops (Q .normal) S n listed a w → wpAny P .any ops Q n listed a w
  | 0, _, _, w, h => h w (Keep.refl _ _)
  | n + 1, listed, a, w, h => ⟨(h w (Keep.refl _ _)).1, fun i hi => by
    obtain ⟨o, ho, hs⟩ := (h w (Keep.refl _ _)).2 i hi
    exact wpOp_of_stepO ho (hs.mono fun v w' hx => wpAny_of_wpX n _ _ _ hx.2)⟩
theorem wpX.ext {n : Nat} {listed : Array Bool} {a : Act} {w w' : World} (h : wpX P ops K S n listed a w) (hk : Keep [] w w') : wpX P ops K S n listed a w' := by
  cases n with
  | zero => exact fun w0 h0 => h w0 (hk.trans h0)
  | succ n => exact fun w0 h0 => h w0 (hk.trans h0)
theorem beq_ne {a b : Nat} (h : a ≠ b) : Nat.beq a b = false := by
  cases hb : Nat.beq a b with
  | true => exact absurd (Nat.eq_of_beq_eq_true hb) h
  | false => rfl
/-- who may come up before i does -/
def unord (ops : Array Oper) (listed : Array Bool) (i : Nat) : List Nat :=
  (List.range ops.size).filter fun j => !(Nat.beq j i) && !(listed.getD j true) && (match ops[j]? with | some oj => oj.after.all (fun e => !(Region.binds .any e) || !(Nat.beq e.on i)) | none => false)
def freeB (ops : Array Oper) (listed : Array Bool) (i : Nat) : Bool :=
  match ops[i]? with
  | some oi => (unord ops listed i).all fun j => match ops[j]? with | some oj => oi.apart ops oj | none => true
  | none => false
theorem mem_unord {listed : Array Bool} {i j : Nat} {oj : Oper} (hj : ops[j]? = some oj) (hne : j ≠ i) (hl : listed.getD j true = false) (ha : ∀ e ∈ oj.after, Region.binds .any e = true → e.on ≠ i) : j ∈ unord ops listed i := by
  have hlt : j < ops.size := (Array.getElem?_eq_some_iff.1 hj).1
  refine List.mem_filter.2 ⟨List.mem_range.2 hlt, ?_⟩
  simp only [hj, hl, Bool.not_false, Bool.and_true, Bool.and_eq_true, Bool.not_eq_true']
  refine ⟨beq_ne hne, ?_⟩
  rw [Array.all_eq_true']
  intro e he
  cases hb : Region.binds .any e with
  | false => simp
  | true => simp [beq_ne (ha e he hb)]
theorem wpX_first {i : Nat} {oi : Oper} {v : Value} {U : Nat → Prop} (hi : ops[i]? = some oi) (hsel : ∀ (j : Nat) (o : Oper) cs b, ops[j]? = some o → o.op ≠ .select cs b) :
    ∀ (fuel : Nat) (listed : Array Bool) (a : Act) (w : World),
      (∀ j oj, ops[j]? = some oj → j ≠ i → listed.getD j true = false → (∀ e ∈ oj.after, Region.binds .any e = true → e.on ≠ i) → oi.apart ops oj = true ∧ ∀ k, S.at j k → U k) →
      i ∈ Region.ready .any ops listed → (∀ w', KeepP U w w' → stepO P ops oi a w' (fun v' w'' => v' = v ∧ Keep [] w' w'')) →
      wpX P ops K S fuel (listed.setIfInBounds i true) (a.put oi.dst v) w → wpX P ops K S (fuel + 1) listed a w := by
  intro fuel
  induction fuel with
  | zero =>
    intro listed a w _ hr hY H w0 hk0
    refine ⟨fun h => (by rw [h] at hr; cases hr), fun j hj => ?_⟩
    by_cases hji : j = i
    · subst hji
      refine ⟨oi, hi, (hY w0 (hk0.toP (fun _ h => by cases h))).mono fun v' w'' hx => ?_⟩
      obtain ⟨rfl, hk⟩ := hx
      exact ⟨hk.toP (fun _ h => by cases h), H.ext (hk0.trans hk)⟩
    · have := ready_mono hj hji
      rw [(H w0 hk0).1] at this
      cases this
  | succ fuel ih =>
    intro listed a w hfree hr hY H w0 hk0
    refine ⟨fun h => (by rw [h] at hr; cases hr), fun j hj => ?_⟩
    by_cases hji : j = i
    · subst hji
      refine ⟨oi, hi, (hY w0 (hk0.toP (fun _ h => by cases h))).mono fun v' w'' hx => ?_⟩
      obtain ⟨rfl, hk⟩ := hx
      exact ⟨hk.toP (fun _ h => by cases h), H.ext (hk0.trans hk)⟩
    · have hjr := ready_mono hj hji
      obtain ⟨oj, hoj, hs⟩ := (H w0 hk0).2 j hjr
      obtain ⟨hul, oj', hoj', hall⟩ := mem_ready.1 hj
      have : oj' = oj := Option.some.inj (hoj'.symm.trans hoj)
      subst this
      have hiul := (mem_ready.1 hr).1
      have hnw : ∀ e ∈ oj'.after, Region.binds .any e = true → e.on ≠ i := fun e he hb heq => by
        have h1 := hall e he hb
        rw [heq] at h1
        have hlt : i < listed.size ∨ listed.size ≤ i := Nat.lt_or_ge _ _
        rcases hlt with hlt | hge
        · simp [hlt] at h1 hiul
          rw [h1] at hiul
          cases hiul
        · simp [Array.getElem?_eq_none hge] at hiul
      obtain ⟨hap, hSU⟩ := hfree j oj' hoj hji hul hnw
      obtain ⟨h1, h2, h3⟩ := Oper.apart_spec hap
      refine ⟨oj', hoj, ((stepO_put (hsel j oj' · · hoj) h1).1 hs).mono fun u w' hx => ?_⟩
      obtain ⟨hkj, hx⟩ := hx
      refine ⟨hkj, ih _ _ _ (fun j2 o2 ho2 hne2 hl2 ha2 => hfree j2 o2 ho2 hne2 ?_ ha2) ?_ (fun w'' hk'' => ?_) ?_⟩
      · by_cases hjj : j = j2
        · subst hjj; exact hul
        · rwa [getD_set_ne true hjj] at hl2
      · exact ready_mono hr (fun e => hji e.symm)
      · exact (stepO_put (hsel i oi · · hi) h3).2 (hY w'' (((hk0.toP (fun _ h => by cases h)).trans (hkj.mono hSU)).trans hk''))
      · rw [Act.put_comm a u v (fun d hd hd' => h2 d hd' hd)]
        have hcomm : (listed.setIfInBounds j true).setIfInBounds i true = (listed.setIfInBounds i true).setIfInBounds j true := Array.setIfInBounds_comm _ _ (fun e => hji e)
        rw [hcomm]
        exact hx
theorem mem_unord_iff {listed : Array Bool} {i j : Nat} (h : freeB ops listed i = true) {oi oj : Oper} (hi : ops[i]? = some oi) (hj : ops[j]? = some oj) (hu : j ∈ unord ops listed i) : oi.apart ops oj = true := by
  unfold freeB at h
  simp only [hi, List.all_eq_true] at h
  have := h j hu
  simpa [hj] using this
def noSel (ops : Array Oper) : Bool := Region.noSelect ops
end
section
variable {P : Program} {c : Cx} {ops : Array Oper} {K : Act → World → Prop} {S : Tn} {N : Nat} {e : Env} {H : List Blk}
def TD0 (P : Program) (c : Cx) (ops : Array Oper) (K : Act → World → Prop) (S : Tn) (N : Nat) (fuel : Nat) (listed : Array Bool) (e : Env) (H : List Blk) : Prop :=
  ∀ a w, Fits N a e → Good c w H → S.n0 ≤ w.heap.size → wpX P ops K S fuel listed a w
/-- the order in which a drawn region's operations are taken; its check runs once -/
inductive Plan where
  | fin
  | take (i : Nat) (js : List Nat) (r : Plan)
  | one (j : Nat) (r : Plan)
  | two (j : Nat) (r : Plan) (j' : Nat) (r' : Plan)
def eqL : List Nat → List Nat → Bool
  | [], [] => true
  | x :: r, y :: s => Nat.beq x y && eqL r s
  | _, _ => false
theorem eqL_eq : ∀ {a b : List Nat}, eqL a b = true → a = b
  | [], [], _ => rfl
  | [], _ :: _, h => by cases h
  | _ :: _, [], h => by cases h
  | x :: r, y :: s, h => by
    simp only [eqL, Bool.and_eq_true] at h
    rw [Nat.eq_of_beq_eq_true h.1, eqL_eq h.2]
def inL (i : Nat) : List Nat → Bool
  | [] => false
  | x :: r => Nat.beq x i || inL i r
theorem inL_mem {i : Nat} : ∀ {l : List Nat}, inL i l = true → i ∈ l
  | [], h => by cases h
  | x :: r, h => by
    simp only [inL, Bool.or_eq_true] at h
    rcases h with h | h
    · rw [Nat.eq_of_beq_eq_true h]; exact List.mem_cons_self
    · exact List.mem_cons_of_mem _ (inL_mem h)
def Plan.ok (ops : Array Oper) : Plan → Nat → Array Bool → Bool
  | .fin, _, l => eqL (Region.ready .any ops l) []
  | .take _ _ _, 0, _ => false
  | .take i js r, n + 1, l => inL i (Region.ready .any ops l) && (freeB ops l i && (eqL (unord ops l i) js && r.ok ops n (l.setIfInBounds i true)))
  | .one _ _, 0, _ => false
  | .one j r, n + 1, l => eqL (Region.ready .any ops l) [j] && r.ok ops n (l.setIfInBounds j true)
  | .two _ _ _ _, 0, _ => false
  | .two j r j' r', n + 1, l => eqL (Region.ready .any ops l) [j, j'] && (r.ok ops n (l.setIfInBounds j true) && r'.ok ops n (l.setIfInBounds j' true))
def TD (P : Program) (c : Cx) (ops : Array Oper) (K : Act → World → Prop) (S : Tn) (N : Nat) (pl : Plan) (e : Env) (H : List Blk) : Prop :=
  ∀ fuel listed, pl.ok ops fuel listed = true → noSel ops = true → TD0 P c ops K S N fuel listed e H
theorem TC.draw {Q : Exit → Act → World → Prop} {id : Nat} (n : Nat) (S : Nat → Tn) (pl : Plan) (hm : P.follows .mixedOrders = true) (hok : (noSel ops && pl.ok ops n (Array.replicate n false)) = true) (hn : ops.size = n) (hS : ∀ n0, (S n0).n0 = n0)
    (h : ∀ n0, (∀ x ∈ H, x.b < n0) → TD P c ops (Q .normal) (S n0) N pl e H) : TC P c Q N (.region id ops true) e H := by
  simp only [Bool.and_eq_true] at hok
  exact fun a w ha hw => wp_region_any hm (wpAny_of_wpX _ _ _ _ (by rw [hn]; exact h _ (fun x hx => (hw.drawn _).lt hx) n _ hok.2 hok.1 a _ ha (hw.drawn _) (Nat.le_of_eq (hS _))))
theorem TD0.done {fuel : Nat} {listed : Array Bool} (hr : Region.ready .any ops listed = []) (h : ∀ a w, Fits N a e → Good c w H → K a w) : TD0 P c ops K S N fuel listed e H := fun a w ha hw _ => by
  cases fuel with
  | zero => exact fun w0 hk => ⟨hr, h a w0 ha (hw.ext hk)⟩
  | succ n => exact fun w0 hk => ⟨fun _ => h a w0 ha (hw.ext hk), fun i hi => by rw [hr] at hi; cases hi⟩
theorem TD.then {Q : Exit → Act → World → Prop} {nx : Code} (h : TC P c Q N nx e H) :
    TD P c ops ((Exit.then (fun a w => nx.wp P Q a w) Q) .normal) S N .fin e H := fun _ _ hok _ => TD0.done (eqL_eq hok) h
theorem TD.end_ {Q : Exit → Act → World → Prop} (h : TE c Q N .normal e H) : TD P c ops (Q .normal) S N .fin e H := fun _ _ hok _ => TD0.done (eqL_eq hok) h
def ro (H : List Blk) : List Blk := match H with
  | [] => []
  | x :: r => { x with wr := false } :: ro r
theorem mem_ro : ∀ {H : List Blk} {x : Blk}, x ∈ ro H → ∃ y ∈ H, x = { y with wr := false }
  | [], _, h => by cases h
  | y :: r, x, h => by
    simp only [ro, List.mem_cons] at h
    rcases h with rfl | h
    · exact ⟨y, List.mem_cons_self, rfl⟩
    · obtain ⟨z, hz, e⟩ := mem_ro h
      exact ⟨z, List.mem_cons_of_mem _ hz, e⟩
theorem ro_b : ∀ (H : List Blk), (ro H).map Blk.b = H.map Blk.b
  | [] => rfl
  | y :: r => by simp [ro, ro_b r]
theorem Good.ro {w : World} (h : Good c w H) : Good ⟨w, [], H.map Blk.b, c.R⟩ w (Z.ro H) where
  has := fun x hx => by
    obtain ⟨y, hy, rfl⟩ := mem_ro hx
    exact h.has y hy
  nodup := by rw [ro_b]; exact h.nodup
  mine := fun x hx hwr => by
    obtain ⟨y, _, rfl⟩ := mem_ro hx
    cases hwr
  own := fun x hx => by
    obtain ⟨y, hy, rfl⟩ := mem_ro hx
    exact .inr (List.mem_map.2 ⟨y, hy, rfl⟩)
  keep := Keep.refl _ _
  rows := fun r hr => ⟨(h.rows r hr).1, fun x hx hwr => by
    obtain ⟨y, _, rfl⟩ := mem_ro hx
    cases hwr⟩
theorem Good.nil (w : World) : Good ⟨w, [], [], []⟩ w [] where
  has := fun _ hx => by cases hx
  nodup := by simp
  mine := fun _ hx => by cases hx
  own := fun _ hx => by cases hx
  keep := Keep.refl _ _
  rows := fun _ hr => by cases hr
theorem Good.roU {w w' : World} {U : Nat → Prop} (h : Good c w H) (hk : KeepP U w w') (hU : ∀ x ∈ H, ¬ U x.b) : Good ⟨w', [], H.map Blk.b, []⟩ w' (Z.ro H) where
  has := fun x hx => by
    obtain ⟨y, hy, rfl⟩ := mem_ro hx
    exact (hk.block _ (h.lt hy) (hU y hy)).trans (h.has y hy)
  nodup := by rw [ro_b]; exact h.nodup
  mine := fun x hx hwr => by
    obtain ⟨y, _, rfl⟩ := mem_ro hx
    cases hwr
  own := fun x hx => by
    obtain ⟨y, hy, rfl⟩ := mem_ro hx
    exact .inr (List.mem_map.2 ⟨y, hy, rfl⟩)
  keep := Keep.refl _ _
  rows := fun _ hr => by cases hr
def AtQ (c : Cx) (N : Nat) (e : Env) (H : List Blk) : Exit → Act → World → Prop := Exit.then (AtE c N e H) fun _ _ _ => False
theorem TL.hitQ {o : Array Oper} : TL P c o (AtQ c N e H) N [] e H := fun _ _ ha hw => ⟨ha, hw⟩
theorem put_val {a : Act} {d : Nat} {v v' : Value} (hd : Nat.blt d N = true) (h : Fits N (a.put (some d) v') (upd e d v)) (ha : Fits N a e) : v' = v := by
  have h1 := h.at_ d v (lk_upd_eq e d v)
  have hdN : d < N := by simpa [Nat.blt_eq] using hd
  simpa [Act.put, ha.size, hdN] using h1
theorem take_ok {i : Nat} {js : List Nat} {r : Plan} {fuel : Nat} {listed : Array Bool} (h : (Plan.take i js r).ok ops fuel listed = true) :
    ∃ n, fuel = n + 1 ∧ i ∈ Region.ready .any ops listed ∧ freeB ops listed i = true ∧ unord ops listed i = js ∧ r.ok ops n (listed.setIfInBounds i true) = true := by
  cases fuel with
  | zero => simp [Plan.ok] at h
  | succ n =>
    simp only [Plan.ok, Bool.and_eq_true] at h
    exact ⟨n, rfl, inL_mem h.1, h.2.1, eqL_eq h.2.2.1, h.2.2.2⟩
/-- reads, quiet calls: no effect is pending that it does not wait for, or none that turns a block -/
theorem TD.take {r : Plan} {i : Nat} {js : List Nat} {o : Oper} {d : Nat} {v : Value} (hi : ops[i]? = some o) (hdst : o.dst = some d) (hd : Nat.blt d N = true)
    (hU : js.flatMap S.l = []) (hN : js.any S.nw = false) (hop : ∀ c', c'.R = c.R → TL P c' ops (AtQ c' N (upd e d v) (ro H)) N [o] e (ro H))
    (h : TD P c ops K S N r (upd e d v) H) : TD P c ops K S N (.take i js r) e H := fun fuel listed hok hsel a w ha hw hn0 => by
  obtain ⟨fuel, rfl, hir, hf, hjs, hok2⟩ := take_ok hok
  refine wpX_first (U := fun _ => False) (v := v) hi (Region.noSelect_spec hsel) fuel listed a w (fun j oj hj hne hl hall => ?_) hir (fun w' hk => ?_) ?_
  · have hm := mem_unord (ops := ops) hj hne hl hall
    refine ⟨mem_unord_iff hf hi hj hm, fun k hk => ?_⟩
    rw [hjs] at hm
    rcases hk with hk | hk
    · have := List.mem_flatMap.2 ⟨j, hm, hk⟩
      rw [hU] at this
      cases this
    · have := List.any_eq_false.1 hN j hm
      exact this hk.1
  · have hg := (hw.ext (hk.toK fun _ h => h)).ro
    have := stepO_of_list (fun a w hx => hx.1.defers) (hop ⟨w', [], H.map Blk.b, c.R⟩ rfl a w' ha hg)
    rw [hdst] at this
    exact this.mono fun v' w'' hx => ⟨put_val hd hx.1 ha, hx.2.keep⟩
  · rw [hdst]
    exact h _ _ hok2 hsel _ _ (ha.put v hd) hw hn0
/-- no memory in it -/
theorem TD.pure {r : Plan} {i : Nat} {js : List Nat} {o : Oper} {d : Nat} {v : Value} (hi : ops[i]? = some o) (hdst : o.dst = some d) (hd : Nat.blt d N = true)
    (hop : ∀ c', TL P c' ops (AtQ c' N (upd e d v) []) N [o] e [])
    (h : TD P c ops K S N r (upd e d v) H) : TD P c ops K S N (.take i js r) e H := fun fuel listed hok hsel a w ha hw hn0 => by
  obtain ⟨fuel, rfl, hir, hf, hjs, hok2⟩ := take_ok hok
  refine wpX_first (U := fun k => ∃ j ∈ unord ops listed i, S.at j k) (v := v) hi (Region.noSelect_spec hsel) fuel listed a w (fun j oj hj hne hl hall => ?_) hir (fun w' _ => ?_) ?_
  · have hm := mem_unord (ops := ops) hj hne hl hall
    exact ⟨mem_unord_iff hf hi hj hm, fun k hk => ⟨j, hm, hk⟩⟩
  · have hg := Good.nil w'
    have := stepO_of_list (fun a w hx => hx.1.defers) (hop _ a w' ha hg)
    rw [hdst] at this
    exact this.mono fun v' w'' hx => ⟨put_val hd hx.1 ha, hx.2.keep⟩
  · rw [hdst]
    exact h _ _ hok2 hsel _ _ (ha.put v hd) hw hn0
/-- reads of blocks that no pending effect turns -/
theorem TD.takeU {r : Plan} {i : Nat} {js : List Nat} {o : Oper} {d : Nat} {v : Value} (m : List Bool) {Hs : List Blk} (hi : ops[i]? = some o) (hdst : o.dst = some d) (hd : Nat.blt d N = true)
    (hm : maskB m H = Hs) (hU : ∀ w, Good c w H → ∀ x ∈ Hs, ∀ j ∈ js, ¬ S.at j x.b) (hop : ∀ c', TL P c' ops (AtQ c' N (upd e d v) (ro Hs)) N [o] e (ro Hs))
    (h : TD P c ops K S N r (upd e d v) H) : TD P c ops K S N (.take i js r) e H := fun fuel listed hok hsel a w ha hw hn0 => by
  obtain ⟨fuel, rfl, hir, hf, hjs, hok2⟩ := take_ok hok
  subst hjs
  refine wpX_first (U := fun k => ∃ j ∈ unord ops listed i, S.at j k) (v := v) hi (Region.noSelect_spec hsel) fuel listed a w (fun j oj hj hne hl hall => ?_) hir (fun w' hk => ?_) ?_
  · have hm := mem_unord (ops := ops) hj hne hl hall
    exact ⟨mem_unord_iff hf hi hj hm, fun k hk => ⟨j, hm, hk⟩⟩
  · have hws := hw.heap_of (hm ▸ maskB_sub m H)
    have hg := hws.roU hk (fun x hx ⟨j, hj, h⟩ => hU w hw x hx j hj h)
    have := stepO_of_list (fun a w hx => hx.1.defers) (hop _ a w' ha hg)
    rw [hdst] at this
    exact this.mono fun v' w'' hx => ⟨put_val hd hx.1 ha, hx.2.keep⟩
  · rw [hdst]
    exact h _ _ hok2 hsel _ _ (ha.put v hd) hw hn0
/-- one step of an effect, a call, a new block: what is owed of it -/
def TS (P : Program) (c : Cx) (ops : Array Oper) (K : Act → World → Prop) (S : Tn) (N : Nat) (j : Nat) (r : Plan) (e : Env) (H : List Blk) : Prop :=
  ∃ o, ops[j]? = some o ∧ ∀ a w, Fits N a e → Good c w H → S.n0 ≤ w.heap.size → stepO P ops o a w (fun v w' => KeepP (S.at j) w w' ∧ ∀ fuel listed, r.ok ops fuel listed = true → noSel ops = true → wpX P ops K S fuel listed (a.put o.dst v) w')
theorem TD.one {r : Plan} {j : Nat} (h : TS P c ops K S N j r e H) : TD P c ops K S N (.one j r) e H := fun fuel listed hok hsel a w ha hw hn0 => by
  cases fuel with
  | zero => simp [Plan.ok] at hok
  | succ fuel =>
  simp only [Plan.ok, Bool.and_eq_true] at hok
  have hr := eqL_eq hok.1
  intro w0 hk
  refine ⟨fun h0 => (by rw [hr] at h0; cases h0), fun i hi => ?_⟩
  rw [hr, List.mem_singleton] at hi
  subst hi
  obtain ⟨o, ho, hs⟩ := h
  exact ⟨o, ho, (hs a w0 ha (hw.ext hk) (Nat.le_trans hn0 hk.size)).mono fun v w' hx => ⟨hx.1, hx.2 _ _ hok.2 hsel⟩⟩
theorem TD.two {r r' : Plan} {j j' : Nat} (h : TS P c ops K S N j r e H) (h' : TS P c ops K S N j' r' e H) : TD P c ops K S N (.two j r j' r') e H := fun fuel listed hok hsel a w ha hw hn0 => by
  cases fuel with
  | zero => simp [Plan.ok] at hok
  | succ fuel =>
  simp only [Plan.ok, Bool.and_eq_true] at hok
  have hr := eqL_eq hok.1
  intro w0 hk
  refine ⟨fun h0 => (by rw [hr] at h0; cases h0), fun i hi => ?_⟩
  rw [hr] at hi
  simp only [List.mem_cons, List.not_mem_nil, or_false] at hi
  rcases hi with rfl | rfl
  · obtain ⟨o, ho, hs⟩ := h
    exact ⟨o, ho, (hs a w0 ha (hw.ext hk) (Nat.le_trans hn0 hk.size)).mono fun v w' hx => ⟨hx.1, hx.2 _ _ hok.2.1 hsel⟩⟩
  · obtain ⟨o, ho, hs⟩ := h'
    exact ⟨o, ho, (hs a w0 ha (hw.ext hk) (Nat.le_trans hn0 hk.size)).mono fun v w' hx => ⟨hx.1, hx.2 _ _ hok.2.2 hsel⟩⟩
end
end Go.Z

set_option linter.unusedSimpArgs false
set_option linter.unusedVariables false
namespace Go.Z
section
variable {P : Program} {c : Cx} {ops : Array Oper} {K : Act → World → Prop} {S : Tn} {N : Nat} {e : Env} {H : List Blk} {d : Nat} {t : TypeId} {p : String} {af : Array Edge} {j : Nat} {r : Plan}
theorem stepO_value {o : Oper} {a : Act} {w w' : World} {v : Value} {K' : Value → World → Prop} (hg : o.guard = none) (hr : (execOp a.eval o).run P w = .ok (.value v) w') (h : K' v w') : stepO P ops o a w K' := by
  unfold stepO runsTo
  rw [if_pos (by simp [Region.wanted, hg]), hr]
  exact h
theorem stepO_skip {o : Oper} {a : Act} {w w' : World} {K' : Value → World → Prop} (hg : o.guard = none) (hr : (execOp a.eval o).run P w = .ok .skip w') (h : K' undef w') : stepO P ops o a w K' := by
  unfold stepO runsTo
  rw [if_pos (by simp [Region.wanted, hg]), hr]
  exact h
theorem stepO_enter {o : Oper} {a : Act} {w w' : World} {f : FuncId} {args : Array Value} {K' : Value → World → Prop} (hg : o.guard = none) (hr : (execOp a.eval o).run P w = .ok (.enter f args) w') (h : Calls P f args w' (fun e w'' => ∃ v, e = .returned v ∧ K' v w'')) : stepO P ops o a w K' := by
  unfold stepO runsTo
  rw [if_pos (by simp [Region.wanted, hg]), hr]
  exact h
theorem TS.box {x : Operand} {v : Value} {cs : List Value} {ty : TypeId} (hi : ops[j]? = some ⟨some d, .box ty x, t, p, af, none⟩) (hx : ev e x = some v) (hv : v.cells = cs.toArray) (hd : Nat.blt d N = true)
    (h : ∀ b, S.n0 ≤ b → TD P c ops K S N r (upd e d (.pointer (some ⟨b, 0, none⟩))) (H ++ [⟨b, ty, cs, (0, 0), true⟩])) : TS P c ops K S N j r e H := ⟨_, hi, fun a w ha hw hn0 => by
  have hrun : (execOp a.eval ⟨some d, .box ty x, t, p, af, none⟩).run P w = .ok (.value (.pointer (some ⟨w.heap.size, 0, none⟩))) (w.alloc (.cells cs.toArray ty)) := by
    simp [execOp, ha.ev hx, Instr.box, newVar, newRow, hv]
  exact stepO_value rfl hrun ⟨⟨by rw [heap_alloc_size]; omega, fun k hk _ => heap_alloc_old _ _ hk, rfl, rfl, rfl⟩, fun f l ho hs => h _ hn0 f l ho hs _ _ (ha.put _ hd) (hw.alloc ty cs (0, 0)) (by rw [heap_alloc_size]; omega)⟩⟩
theorem TS.alloc {v : Value} {cs : List Value} {ty : TypeId} (hi : ops[j]? = some ⟨some d, .alloc ty, t, p, af, none⟩) (hz : Zro P ty v) (hv : v.cells = cs.toArray) (hd : Nat.blt d N = true)
    (h : ∀ b, S.n0 ≤ b → TD P c ops K S N r (upd e d (.pointer (some ⟨b, 0, none⟩))) (H ++ [⟨b, ty, cs, (0, 0), true⟩])) : TS P c ops K S N j r e H := ⟨_, hi, fun a w ha hw hn0 => by
  have hrun : (execOp a.eval ⟨some d, .alloc ty, t, p, af, none⟩).run P w = .ok (.value (.pointer (some ⟨w.heap.size, 0, none⟩))) (w.alloc (.cells cs.toArray ty)) := by
    simp [execOp, Instr.alloc, newVar, newRow, hv, hz w]
  exact stepO_value rfl hrun ⟨⟨by rw [heap_alloc_size]; omega, fun k hk _ => heap_alloc_old _ _ hk, rfl, rfl, rfl⟩, fun f l ho hs => h _ hn0 f l ho hs _ _ (ha.put _ hd) (hw.alloc ty cs (0, 0)) (by rw [heap_alloc_size]; omega)⟩⟩
theorem TS.store (i : Nat) {x y : Operand} {b o ty n : Nat} {B : Blk} {v : Value} {vs : List Value} (hi : ops[j]? = some ⟨none, .store ty x y, t, p, af, none⟩) (hx : ev e x = some (.pointer (some ⟨b, o, none⟩))) (hy : ev e y = some v) (hB : H[i]? = some B) (hb : B.b = b) (hwr : B.wr = true)
    (hfz : B.fz = (0, 0)) (hL : ∀ w, (sizeOf ty).run P w = .ok n w) (hv : v.cells = vs.toArray) (hn : vs.length = n) (hp : vs.all plainV = true) (ho : o + vs.length ≤ B.cs.length) (hS : S.at j b)
    (h : TD P c ops K S N r e (setB H i (setL B.cs o vs))) : TS P c ops K S N j r e H := ⟨_, hi, fun a w ha hw hn0 => by
  subst hb
  obtain ⟨w', hrun, hgood⟩ := run_storeCells (P := P) vs 0 hw hB hwr hfz hp (o := o) (by omega)
  have h1 : Good ⟨w, [B.b], [B.b], []⟩ w [B] := ⟨fun x hx => by rw [List.mem_singleton] at hx; subst hx; exact hw.has _ (List.mem_of_getElem? hB), by simp, fun x hx _ => by rw [List.mem_singleton] at hx; subst hx; exact .inr (by simp),
    fun x hx => by rw [List.mem_singleton] at hx; subst hx; exact .inr (by simp), Keep.refl _ _, fun r hr => by cases hr⟩
  obtain ⟨w2, hrun2, hgood2⟩ := run_storeCells (P := P) (i := 0) vs 0 h1 rfl hwr hfz hp (o := o) (by omega)
  have hww : w2 = w' := by rw [hrun] at hrun2; injection hrun2 with _ h3; exact h3.symm
  have hrun : (execOp a.eval ⟨none, .store ty x y, t, p, af, none⟩).run P w = .ok .skip w' := by
    simp [execOp, ha.ev hx, ha.ev hy, Instr.storeAt, Instr.sureAddr, storeVar, hL w, hv, hn, hrun]
  exact stepO_skip rfl hrun ⟨(hww ▸ hgood2.keep).toP (fun k hk => by rw [List.mem_singleton] at hk; subst hk; exact hS), fun f l ho hs => h f l ho hs _ _ ha hgood (Nat.le_trans hn0 (hww ▸ hgood2.keep).size)⟩⟩
theorem TS.call (is : List Nat) {f : FuncId} {dst : Option Nat} {xs : Array Operand} {ts : Array TypeId} {vs : List Value} {H1 H2 : List Blk} {R1 : List Row} {K' : Value → List Blk → Prop} (hi : ops[j]? = some ⟨dst, .call ⟨.value (.func f), xs, ts⟩, t, p, af, none⟩)
    (hcall : ∀ args w, (callFunc f args).run P w = .ok (.enter f args) w) (hargs : evs e xs.toList = some vs) (htake : takeB is H = some (H1, H2)) (hsp : Spec P f vs H1 R1 K')
    (hrows : ∀ w, Good c w H → ∀ r ∈ R1, RowAt w r ∧ ∀ x ∈ H1, x.wr = true → r.cs ≠ [] → x.b ≠ r.b) (hd : ∀ t, dst = some t → Nat.blt t N = true) (hS : ∀ k, k ∈ wids H1 → S.at j k)
    (h : ∀ v H', K' v H' → TD P c ops K S N r (updO e dst v) (H' ++ H2)) : TS P c ops K S N j r e H := ⟨_, hi, fun a w ha hw hn0 => by
  have hrun : (execOp a.eval ⟨dst, .call ⟨.value (.func f), xs, ts⟩, t, p, af, none⟩).run P w = .ok (.enter f vs.toArray) w := by
    have h1 : xs.map a.eval = vs.toArray := by
      rw [← ha.evs hargs]
      exact Array.toList_inj.1 (by rw [Array.toList_map])
    simp [execOp, resolve, h1, Act.eval, Deferred.ofValue, invoke, hcall]
  have hg := hw.perm (takeB_perm htake)
  have hpre : Pre w H1 R1 := by
    have hs := hg.heap_of (List.sublist_append_left H1 H2)
    exact ⟨hs.has, hs.nodup, fun r hr => hrows w hw r hr⟩
  refine stepO_enter rfl hrun ((hsp w hpre).mono ?_)
  rintro en w' ⟨v, H', rfl, hk, hg'⟩
  exact ⟨v, rfl, hg'.keep.toP hS, fun f l ho hs => h v H' hk f l ho hs _ _ (ha.putO v hd) (hg.back hg') (Nat.le_trans hn0 hg'.keep.size)⟩⟩
end
end Go.Z

set_option linter.unusedSimpArgs false
set_option linter.unusedVariables false
namespace Go.Z
theorem wI64 {z : Int} (h : -9223372036854775808 ≤ z ∧ z ≤ 9223372036854775807) : IntKind.i64.wrap z = z := by
  simp only [IntKind.wrap, IntKind.bits, IntKind.signed]
  simp
  omega
theorem wU32 (z : Int) : IntKind.u32.wrap z = z % 4294967296 := IntKind.wrap_u32' z
theorem wU8 (z : Int) : IntKind.u8.wrap z = z % 256 := IntKind.wrap_u8' z
theorem wU32i {z : Int} (h : 0 ≤ z ∧ z < 4294967296) : IntKind.u32.wrap z = z := by rw [wU32]; omega
theorem wU8i {z : Int} (h : 0 ≤ z ∧ z < 256) : IntKind.u8.wrap z = z := by rw [wU8]; omega
def sg (a : Int) : Int := if a < 2147483648 then a else a - 4294967296
theorem wI32u {a : Int} (h : 0 ≤ a ∧ a < 4294967296) : IntKind.i32.wrap a = sg a := by
  unfold sg
  simp only [IntKind.wrap, IntKind.bits, IntKind.signed]
  simp
  omega
theorem land_mask (m k : Nat) : m &&& (2 ^ k - 1) = m % 2 ^ k := Nat.and_two_pow_sub_one_eq_mod m k
theorem bits_and_nat {kd : IntKind} (hs : kd.signed = false) {m n : Nat} (hm : m < 2 ^ kd.bits) (hn : n < 2 ^ kd.bits) : bits .and kd (m : Int) (n : Int) = ((m &&& n : Nat) : Int) := by
  have h1 : (BitVec.ofInt kd.bits (m : Int)).toNat = m := by rw [BitVec.ofInt_natCast, BitVec.toNat_ofNat]; exact Nat.mod_eq_of_lt hm
  have h2 : (BitVec.ofInt kd.bits (n : Int)).toNat = n := by rw [BitVec.ofInt_natCast, BitVec.toNat_ofNat]; exact Nat.mod_eq_of_lt hn
  have hx : m &&& n < 2 ^ kd.bits := Nat.and_lt_two_pow _ hn
  show kd.wrap ((BitVec.ofInt kd.bits (m : Int) &&& BitVec.ofInt kd.bits (n : Int)).toNat : Int) = _
  rw [BitVec.toNat_and, h1, h2]
  simp only [IntKind.wrap, hs]
  have hpos : (0 : Int) ≤ ((m &&& n : Nat) : Int) := Int.natCast_nonneg _
  have : ((m &&& n : Nat) : Int) % (2 ^ kd.bits : Int) = ((m &&& n : Nat) : Int) := Int.emod_eq_of_lt hpos (by exact_mod_cast hx)
  simpa using this
theorem bMask_u32 (k : Nat) (hk : k ≤ 32) {m : Int} (hm : 0 ≤ m ∧ m < 4294967296) : bits .and .u32 m ((2 : Int) ^ k - 1) = m % (2 : Int) ^ k := by
  obtain ⟨M, rfl⟩ := Int.eq_ofNat_of_zero_le hm.1
  have h0 : 0 < 2 ^ k := Nat.pos_of_ne_zero (by simp)
  have e : ((2 : Int) ^ k - 1) = ((2 ^ k - 1 : Nat) : Int) := by
    rw [Int.ofNat_sub h0]; simp
  have hle : 2 ^ k ≤ 2 ^ 32 := Nat.pow_le_pow_right (by omega) hk
  rw [e, bits_and_nat rfl (by show M < 2 ^ 32; omega) (by show 2 ^ k - 1 < 2 ^ 32; omega), land_mask]
  simp
theorem bMask_u8 (k : Nat) (hk : k ≤ 8) {m : Int} (hm : 0 ≤ m ∧ m < 256) : bits .and .u8 m ((2 : Int) ^ k - 1) = m % (2 : Int) ^ k := by
  obtain ⟨M, rfl⟩ := Int.eq_ofNat_of_zero_le hm.1
  have h0 : 0 < 2 ^ k := Nat.pos_of_ne_zero (by simp)
  have e : ((2 : Int) ^ k - 1) = ((2 ^ k - 1 : Nat) : Int) := by
    rw [Int.ofNat_sub h0]; simp
  have hle : 2 ^ k ≤ 2 ^ 8 := Nat.pow_le_pow_right (by omega) hk
  rw [e, bits_and_nat rfl (by show M < 2 ^ 8; omega) (by show 2 ^ k - 1 < 2 ^ 8; omega), land_mask]
  simp
/-- of an int, whatever its sign: the lowest bits -/
theorem bMask_i64 (k : Nat) (hk : k < 63) {m : Int} : bits .and .i64 m ((2 : Int) ^ k - 1) = m % (2 : Int) ^ k := by
  have h0 : 0 < 2 ^ k := Nat.pos_of_ne_zero (by simp)
  have hle : 2 ^ k ≤ 2 ^ 62 := Nat.pow_le_pow_right (by omega) (by omega)
  have e : ((2 : Int) ^ k - 1) = ((2 ^ k - 1 : Nat) : Int) := by
    rw [Int.ofNat_sub h0]; simp
  rw [e]
  show IntKind.i64.wrap ((BitVec.ofInt 64 m &&& BitVec.ofInt 64 ((2 ^ k - 1 : Nat) : Int)).toNat : Int) = _
  have h2 : (BitVec.ofInt 64 ((2 ^ k - 1 : Nat) : Int)).toNat = 2 ^ k - 1 := by
    rw [BitVec.ofInt_natCast, BitVec.toNat_ofNat]; exact Nat.mod_eq_of_lt (by omega)
  rw [BitVec.toNat_and, h2, land_mask, BitVec.toNat_ofInt]
  have hdvd : (2 ^ k : Nat) ∣ 2 ^ 64 := Nat.pow_dvd_pow 2 (by omega)
  have h3 : (((m % (2 ^ 64 : Nat)).toNat % 2 ^ k : Nat) : Int) = m % (2 : Int) ^ k := by
    have hnn : 0 ≤ m % ((2 ^ 64 : Nat) : Int) := Int.emod_nonneg _ (by simp)
    rw [Int.natCast_emod, Int.toNat_of_nonneg hnn]
    have hd2 : ((2 ^ k : Nat) : Int) ∣ ((2 ^ 64 : Nat) : Int) := by exact_mod_cast hdvd
    rw [Int.emod_emod_of_dvd _ hd2]
    simp
  rw [h3]
  refine wI64 ⟨?_, ?_⟩
  · have : 0 ≤ m % (2 : Int) ^ k := Int.emod_nonneg _ (by have : (0 : Int) < 2 ^ k := by exact_mod_cast h0
                                                          omega)
    omega
  · have : m % (2 : Int) ^ k < (2 : Int) ^ k := Int.emod_lt_of_pos _ (by exact_mod_cast h0)
    have h4 : (2 : Int) ^ k ≤ (2 : Int) ^ 62 := by exact_mod_cast hle
    have h5 : ((2 : Int) ^ 62) = 4611686018427387904 := by decide
    omega
theorem bM_u32 (k : Nat) {m q p : Int} (hk : k ≤ 32) (hp : (2 : Int) ^ k = p) (hq : q = p - 1) (hm : 0 ≤ m ∧ m < 4294967296) : bits .and .u32 m q = m % p := by rw [hq, ← hp]; exact bMask_u32 k hk hm
theorem bM_u8 (k : Nat) {m q p : Int} (hk : k ≤ 8) (hp : (2 : Int) ^ k = p) (hq : q = p - 1) (hm : 0 ≤ m ∧ m < 256) : bits .and .u8 m q = m % p := by rw [hq, ← hp]; exact bMask_u8 k hk hm
theorem bM_i64 (k : Nat) {m q p : Int} (hk : k < 63) (hp : (2 : Int) ^ k = p) (hq : q = p - 1) : bits .and .i64 m q = m % p := by rw [hq, ← hp]; exact bMask_i64 k hk
theorem shl_u32 {m n p : Int} (hp : (2 : Int) ^ min n.toNat IntKind.u32.bits = p) : IntKind.u32.wrap (m * 2 ^ min n.toNat IntKind.u32.bits) = m * p % 4294967296 := by rw [hp, wU32]
theorem shr_any {k : IntKind} {m n p : Int} (hp : (2 : Int) ^ min n.toNat k.bits = p) : m.fdiv (2 ^ min n.toNat k.bits) = m / p := by
  have h : (0 : Int) < 2 ^ min n.toNat k.bits := Int.pow_pos (by omega)
  rw [Int.fdiv_eq_ediv_of_nonneg _ (Int.le_of_lt h), hp]
theorem shr_u32 {m n p : Int} (hp : (2 : Int) ^ min n.toNat IntKind.u32.bits = p) : m.fdiv (2 ^ min n.toNat IntKind.u32.bits) = m / p := shr_any hp
theorem shr_i64 {m n p : Int} (hp : (2 : Int) ^ min n.toNat IntKind.i64.bits = p) : m.fdiv (2 ^ min n.toNat IntKind.i64.bits) = m / p := shr_any hp
theorem shr_i32 {m n p : Int} (hp : (2 : Int) ^ min n.toNat IntKind.i32.bits = p) : m.fdiv (2 ^ min n.toNat IntKind.i32.bits) = m / p := shr_any hp
theorem pickT {α : Type} {b : Bool} {u v : α} (h : b = true) : (if b then u else v) = u := by rw [h]; rfl
theorem pickF {α : Type} {b : Bool} {u v : α} (h : b = false) : (if b then u else v) = v := by rw [h]; rfl
theorem shlV_u32 {m n : Int} (h : n ≤ 32) : IntKind.u32.wrap (m * 2 ^ min n.toNat IntKind.u32.bits) = m * 2 ^ n.toNat % 4294967296 := by
  rw [show min n.toNat IntKind.u32.bits = n.toNat from Nat.min_eq_left (by show n.toNat ≤ 32; omega), wU32]
theorem shrV {k : IntKind} {m n : Int} (h : n ≤ k.bits) : m.fdiv (2 ^ min n.toNat k.bits) = m / 2 ^ n.toNat := by
  have h0 : (0 : Int) < 2 ^ n.toNat := Int.pow_pos (by omega)
  rw [show min n.toNat k.bits = n.toNat from Nat.min_eq_left (by omega), Int.fdiv_eq_ediv_of_nonneg _ (Int.le_of_lt h0)]
theorem or_add (x y k : Nat) (hx : x % 2 ^ k = 0) (hy : y < 2 ^ k) : x ||| y = x + y := by
  have h1 : x = 2 ^ k * (x / 2 ^ k) := by
    have := Nat.div_add_mod x (2 ^ k)
    omega
  rw [h1, Nat.two_pow_add_eq_or_of_lt hy]
theorem bits_or_nat {kd : IntKind} (hs : kd.signed = false) {m n : Nat} (hm : m < 2 ^ kd.bits) (hn : n < 2 ^ kd.bits) : bits .or kd (m : Int) (n : Int) = ((m ||| n : Nat) : Int) := by
  have h1 : (BitVec.ofInt kd.bits (m : Int)).toNat = m := by rw [BitVec.ofInt_natCast, BitVec.toNat_ofNat]; exact Nat.mod_eq_of_lt hm
  have h2 : (BitVec.ofInt kd.bits (n : Int)).toNat = n := by rw [BitVec.ofInt_natCast, BitVec.toNat_ofNat]; exact Nat.mod_eq_of_lt hn
  have hx : m ||| n < 2 ^ kd.bits := Nat.or_lt_two_pow hm hn
  show kd.wrap ((BitVec.ofInt kd.bits (m : Int) ||| BitVec.ofInt kd.bits (n : Int)).toNat : Int) = _
  rw [BitVec.toNat_or, h1, h2]
  simp only [IntKind.wrap, hs]
  have hpos : (0 : Int) ≤ ((m ||| n : Nat) : Int) := Int.natCast_nonneg _
  have : ((m ||| n : Nat) : Int) % (2 ^ kd.bits : Int) = ((m ||| n : Nat) : Int) := Int.emod_eq_of_lt hpos (by exact_mod_cast hx)
  simpa using this
theorem bits_xor_nat {kd : IntKind} (hs : kd.signed = false) {m n : Nat} (hm : m < 2 ^ kd.bits) (hn : n < 2 ^ kd.bits) : bits .xor kd (m : Int) (n : Int) = ((m ^^^ n : Nat) : Int) := by
  have h1 : (BitVec.ofInt kd.bits (m : Int)).toNat = m := by rw [BitVec.ofInt_natCast, BitVec.toNat_ofNat]; exact Nat.mod_eq_of_lt hm
  have h2 : (BitVec.ofInt kd.bits (n : Int)).toNat = n := by rw [BitVec.ofInt_natCast, BitVec.toNat_ofNat]; exact Nat.mod_eq_of_lt hn
  have hx : m ^^^ n < 2 ^ kd.bits := Nat.xor_lt_two_pow hm hn
  show kd.wrap ((BitVec.ofInt kd.bits (m : Int) ^^^ BitVec.ofInt kd.bits (n : Int)).toNat : Int) = _
  rw [BitVec.toNat_xor, h1, h2]
  simp only [IntKind.wrap, hs]
  have hpos : (0 : Int) ≤ ((m ^^^ n : Nat) : Int) := Int.natCast_nonneg _
  have : ((m ^^^ n : Nat) : Int) % (2 ^ kd.bits : Int) = ((m ^^^ n : Nat) : Int) := Int.emod_eq_of_lt hpos (by exact_mod_cast hx)
  simpa using this
/-- a word's bits beside another one's -/
theorem bOr_u32 (k : Nat) {x y p : Int} (hk : k ≤ 32) (hp : (2 : Int) ^ k = p) (hx : 0 ≤ x ∧ x < 4294967296) (hm : x % p = 0) (hy : 0 ≤ y ∧ y < p) : bits .or .u32 x y = x + y := by
  subst hp
  obtain ⟨X, rfl⟩ := Int.eq_ofNat_of_zero_le hx.1
  obtain ⟨Y, rfl⟩ := Int.eq_ofNat_of_zero_le hy.1
  have hY : Y < 2 ^ k := by have := hy.2; exact_mod_cast this
  have hX : X % 2 ^ k = 0 := by exact_mod_cast hm
  have hle : 2 ^ k ≤ 2 ^ 32 := Nat.pow_le_pow_right (by omega) hk
  rw [bits_or_nat rfl (by show X < 2 ^ 32; omega) (by show Y < 2 ^ 32; omega), or_add X Y k hX hY]
  simp
def band (a b : Int) : Int := ((a.toNat &&& b.toNat : Nat) : Int)
def bor (a b : Int) : Int := ((a.toNat ||| b.toNat : Nat) : Int)
def bxor (a b : Int) : Int := ((a.toNat ^^^ b.toNat : Nat) : Int)
abbrev U32 (a : Int) : Prop := 0 ≤ a ∧ a < 4294967296
theorem band_eq {a b : Int} (ha : U32 a) (hb : U32 b) : bits .and .u32 a b = band a b := by
  obtain ⟨A, rfl⟩ := Int.eq_ofNat_of_zero_le ha.1
  obtain ⟨B, rfl⟩ := Int.eq_ofNat_of_zero_le hb.1
  exact bits_and_nat rfl (by show A < 2 ^ 32; have := ha.2; omega) (by show B < 2 ^ 32; have := hb.2; omega)
theorem bor_eq {a b : Int} (ha : U32 a) (hb : U32 b) : bits .or .u32 a b = bor a b := by
  obtain ⟨A, rfl⟩ := Int.eq_ofNat_of_zero_le ha.1
  obtain ⟨B, rfl⟩ := Int.eq_ofNat_of_zero_le hb.1
  exact bits_or_nat rfl (by show A < 2 ^ 32; have := ha.2; omega) (by show B < 2 ^ 32; have := hb.2; omega)
theorem bxor_eq {a b : Int} (ha : U32 a) (hb : U32 b) : bits .xor .u32 a b = bxor a b := by
  obtain ⟨A, rfl⟩ := Int.eq_ofNat_of_zero_le ha.1
  obtain ⟨B, rfl⟩ := Int.eq_ofNat_of_zero_le hb.1
  exact bits_xor_nat rfl (by show A < 2 ^ 32; have := ha.2; omega) (by show B < 2 ^ 32; have := hb.2; omega)
theorem band_u32 {a b : Int} (ha : U32 a) : U32 (band a b) := by
  have h1 : a.toNat &&& b.toNat ≤ a.toNat := Nat.and_le_left
  have := ha.1; have := ha.2
  unfold band U32
  omega
theorem bor_u32 {a b : Int} (ha : U32 a) (hb : U32 b) : U32 (bor a b) := by
  have h1 : a.toNat ||| b.toNat < 2 ^ 32 := Nat.or_lt_two_pow (by have := ha.2; omega) (by have := hb.2; omega)
  unfold bor U32
  omega
theorem bxor_u32 {a b : Int} (ha : U32 a) (hb : U32 b) : U32 (bxor a b) := by
  have h1 : a.toNat ^^^ b.toNat < 2 ^ 32 := Nat.xor_lt_two_pow (by have := ha.2; omega) (by have := hb.2; omega)
  unfold bxor U32
  omega
theorem compl_u32 {a : Int} (ha : U32 a) : bits .xor .u32 (if IntKind.u32.signed then -1 else IntKind.u32.max) a = 4294967295 - a := by
  obtain ⟨A, rfl⟩ := Int.eq_ofNat_of_zero_le ha.1
  have hA : A < 4294967296 := by have := ha.2; omega
  have e : (if IntKind.u32.signed then -1 else IntKind.u32.max : Int) = ((4294967295 : Nat) : Int) := by decide
  rw [e, bits_xor_nat rfl (by decide) (by show A < 2 ^ 32; omega)]
  have h1 : 4294967295 ^^^ A = 4294967295 - A := by
    have h2 : (4294967295 : Nat) ^^^ A = (~~~ (BitVec.ofNat 32 A)).toNat := by
      rw [← BitVec.allOnes_xor]
      simp [BitVec.toNat_xor, Nat.mod_eq_of_lt hA]
    rw [h2, BitVec.toNat_not]
    simp [Nat.mod_eq_of_lt hA]
  rw [h1]
  omega
theorem dS {d N : Nat} (h : Nat.blt d N = true) : ∀ t, some d = some t → Nat.blt t N = true := fun _ e => by cases e; exact h
theorem dN {N : Nat} : ∀ t, (none : Option Nat) = some t → Nat.blt t N = true := fun _ e => by cases e
section
variable {P : Program} {c : Cx} {ops : Array Oper} {Q : Exit → Act → World → Prop} {K : Act → World → Prop} {S : Tn} {N : Nat} {e : Env} {H : List Blk}
theorem TL.hitQP {o : Array Oper} {is : List Nat} {A B : List Blk} (ht : takeB is H = some (A, B)) : TL P c o (AtQ c N e H) N [] e (A ++ B) := fun _ _ ha hw => ⟨ha, hw.perm (takeB_perm ht).symm⟩
theorem apart_of {w : World} {m : List Bool} {H' : List Blk} (_ : Good c w H) (hm : maskB m H = H') {U : List Nat} (hU : ∀ x ∈ H', x.b ∉ U) : ∀ x ∈ H', x.b ∉ U := by
  subst hm
  exact hU
theorem TL.split {l : List Oper} {s : Nat} {b : Bool} (_ : lk e s = some (.bool b)) (ht : b = true → TL P c ops Q N l e H) (hf : b = false → TL P c ops Q N l e H) : TL P c ops Q N l e H := by
  cases b
  · exact hf rfl
  · exact ht rfl
/-- one block's cells, written otherwise -/
theorem setC_eq {i : Nat} {B : Blk} (cs' : List Value) (hB : H[i]? = some B) (hc : B.cs = cs') : setB H i cs' = H := by
  subst hc
  exact setB_id hB
theorem TL.setC (i : Nat) {l : List Oper} {B : Blk} (cs' : List Value) (hB : H[i]? = some B) (hc : B.cs = cs') (h : TL P c ops Q N l e (setB H i cs')) : TL P c ops Q N l e H := setC_eq cs' hB hc ▸ h
theorem TC.setC (i : Nat) {x : Code} {B : Blk} (cs' : List Value) (hB : H[i]? = some B) (hc : B.cs = cs') (h : TC P c Q N x e (setB H i cs')) : TC P c Q N x e H := setC_eq cs' hB hc ▸ h
theorem TE.setC (i : Nat) {x : Exit} {B : Blk} (cs' : List Value) (hB : H[i]? = some B) (hc : B.cs = cs') (h : TE c Q N x e (setB H i cs')) : TE c Q N x e H := setC_eq cs' hB hc ▸ h
theorem TD.setC (i : Nat) {pl : Plan} {B : Blk} (cs' : List Value) (hB : H[i]? = some B) (hc : B.cs = cs') (h : TD P c ops K S N pl e (setB H i cs')) : TD P c ops K S N pl e H := setC_eq cs' hB hc ▸ h
/-- a short circuit: both ways come together again -/
theorem TL.join (k : Nat) (ks : List Nat) {l : List Oper} {s d : Nat} {b xT xF : Bool} {ek : Env} (_ : lk e s = some (.bool b)) (_ : sel e ks = some ek)
    (hT : b = true → TL P c ops Q N (l.drop k) ((d, .bool xT) :: ek) H → TL P c ops Q N l e H) (hF : b = false → TL P c ops Q N (l.drop k) ((d, .bool xF) :: ek) H → TL P c ops Q N l e H)
    (h : TL P c ops Q N (l.drop k) ((d, .bool (bif b then xT else xF)) :: ek) H) : TL P c ops Q N l e H := by
  cases b
  · exact hF rfl h
  · exact hT rfl h
def Plan.drop : Nat → Plan → Plan
  | 0, p => p
  | n + 1, .take _ _ r => r.drop n
  | n + 1, .one _ r => r.drop n
  | _ + 1, p => p
theorem TD.keepSlots {pl : Plan} {e' : Env} (ks : List Nat) (hk : sel e ks = some e') (h : TD P c ops K S N pl e' H) : TD P c ops K S N pl e H :=
  fun f l ho hs a w ha hw hn => h f l ho hs a w (ha.weaken (sel_lk hk)) hw hn
theorem TD.join (k : Nat) (ks : List Nat) {pl : Plan} {s d : Nat} {b xT xF : Bool} {ek : Env} (_ : lk e s = some (.bool b)) (_ : sel e ks = some ek)
    (hT : b = true → TD P c ops K S N (pl.drop k) ((d, .bool xT) :: ek) H → TD P c ops K S N pl e H) (hF : b = false → TD P c ops K S N (pl.drop k) ((d, .bool xF) :: ek) H → TD P c ops K S N pl e H)
    (h : TD P c ops K S N (pl.drop k) ((d, .bool (bif b then xT else xF)) :: ek) H) : TD P c ops K S N pl e H := by
  cases b
  · exact hF rfl h
  · exact hT rfl h
theorem TD.split {pl : Plan} {s : Nat} {b : Bool} (_ : lk e s = some (.bool b)) (ht : b = true → TD P c ops K S N pl e H) (hf : b = false → TD P c ops K S N pl e H) : TD P c ops K S N pl e H := by
  cases b
  · exact hf rfl
  · exact ht rfl
theorem TE.retAM (m : List Bool) {fn : Func} {K : Value → List Blk → Prop} {rv : ResultVar} {v : Value} {H' : List Blk} (hr : fn.results = #[rv]) (h1 : ResAt P e H rv v) (hm : maskB m H = H') (hK : K v H') : TE c (bodyPost P fn (Ends c K)) N .ret e H := fun a w ha hw => by
  refine ⟨ha.defers, v, ?_, v, H', rfl, hK, hw.heap_of (hm ▸ maskB_sub m H)⟩
  unfold results
  rw [hr]
  exact mapM1 (resSem a.tmps) (h1.run ha hw)
theorem TE.retABM (m : List Bool) {fn : Func} {K : Value → List Blk → Prop} {rv rv' : ResultVar} {v v' : Value} {H' : List Blk} (hr : fn.results = #[rv, rv']) (h1 : ResAt P e H rv v) (h2 : ResAt P e H rv' v') (hm : maskB m H = H') (hK : K (.tuple #[v, v']) H') : TE c (bodyPost P fn (Ends c K)) N .ret e H := fun a w ha hw => by
  refine ⟨ha.defers, .tuple #[v, v'], ?_, .tuple #[v, v'], H', rfl, hK, hw.heap_of (hm ▸ maskB_sub m H)⟩
  unfold results
  rw [hr]
  exact mapM2 (resSem a.tmps) (h1.run ha hw) (h2.run ha hw)
theorem TE.retABCM (m : List Bool) {fn : Func} {K : Value → List Blk → Prop} {rv rv' rv'' : ResultVar} {v v' v'' : Value} {H' : List Blk} (hr : fn.results = #[rv, rv', rv'']) (h1 : ResAt P e H rv v) (h2 : ResAt P e H rv' v') (h3 : ResAt P e H rv'' v'') (hm : maskB m H = H') (hK : K (.tuple #[v, v', v'']) H') :
    TE c (bodyPost P fn (Ends c K)) N .ret e H := fun a w ha hw => by
  refine ⟨ha.defers, .tuple #[v, v', v''], ?_, .tuple #[v, v', v''], H', rfl, hK, hw.heap_of (hm ▸ maskB_sub m H)⟩
  unfold results
  rw [hr]
  exact mapM3 (resSem a.tmps) (h1.run ha hw) (h2.run ha hw) (h3.run ha hw)
theorem TE.ret0M (m : List Bool) {fn : Func} {K : Value → List Blk → Prop} {x : Exit} {H' : List Blk} (hx : x = .ret ∨ x = .normal) (hr : fn.results = #[]) (hm : maskB m H = H') (hK : K (.tuple #[]) H') : TE c (bodyPost P fn (Ends c K)) N x e H :=
  TE.mask m hm (TE.ret0 hx hr hK)
theorem Fits.setV {a : Act} {s : Nat} {v v' : Value} (h : Fits N a e) (hs : lk e s = some v) (hv : v = v') : Fits N a (upd e s v') :=
  h.weaken fun t u ht => by
    subst hv
    by_cases hst : s = t
    · subst hst
      rw [lk_upd_eq] at ht
      rw [hs]
      exact ht
    · rwa [lk_upd_ne _ _ hst] at ht
theorem TE.setI (s : Nat) {x : Exit} {k : IntKind} {q : Int} (q' : Int) (hs : lk e s = some (.int k q)) (hq : q = q') (h : TE c Q N x (upd e s (.int k q')) H) : TE c Q N x e H := fun a w ha hw => h a w (ha.setV hs (by rw [hq])) hw
theorem TC.setI (s : Nat) {x : Code} {k : IntKind} {q : Int} (q' : Int) (hs : lk e s = some (.int k q)) (hq : q = q') (h : TC P c Q N x (upd e s (.int k q')) H) : TC P c Q N x e H := fun a w ha hw => h a w (ha.setV hs (by rw [hq])) hw
theorem TL.setI (s : Nat) {l : List Oper} {k : IntKind} {q : Int} (q' : Int) (hs : lk e s = some (.int k q)) (hq : q = q') (h : TL P c ops Q N l (upd e s (.int k q')) H) : TL P c ops Q N l e H := fun a w ha hw => h a w (ha.setV hs (by rw [hq])) hw
theorem TE.setB (s : Nat) {x : Exit} {q : Bool} (q' : Bool) (hs : lk e s = some (.bool q)) (hq : q = q') (h : TE c Q N x (upd e s (.bool q')) H) : TE c Q N x e H := fun a w ha hw => h a w (ha.setV hs (by rw [hq])) hw
theorem TL.setB (s : Nat) {l : List Oper} {q : Bool} (q' : Bool) (hs : lk e s = some (.bool q)) (hq : q = q') (h : TL P c ops Q N l (upd e s (.bool q')) H) : TL P c ops Q N l e H := fun a w ha hw => h a w (ha.setV hs (by rw [hq])) hw
theorem TE.setV (s : Nat) {x : Exit} {v : Value} (v' : Value) (hs : lk e s = some v) (hq : v = v') (h : TE c Q N x (upd e s v') H) : TE c Q N x e H := fun a w ha hw => h a w (ha.setV hs hq) hw
theorem TL.setV (s : Nat) {l : List Oper} {v : Value} (v' : Value) (hs : lk e s = some v) (hq : v = v') (h : TL P c ops Q N l (upd e s v') H) : TL P c ops Q N l e H := fun a w ha hw => h a w (ha.setV hs hq) hw
/-- the blocks, written otherwise -/
theorem TL.setH {l : List Oper} {H' : List Blk} (hH : H = H') (h : TL P c ops Q N l e H') : TL P c ops Q N l e H := hH ▸ h
theorem TE.setH {x : Exit} {H' : List Blk} (hH : H = H') (h : TE c Q N x e H') : TE c Q N x e H := hH ▸ h
theorem TC.setH {x : Code} {H' : List Blk} (hH : H = H') (h : TC P c Q N x e H') : TC P c Q N x e H := hH ▸ h
theorem TD.setH {pl : Plan} {H' : List Blk} (hH : H = H') (h : TD P c ops K S N pl e H') : TD P c ops K S N pl e H := hH ▸ h
theorem TD.setI (s : Nat) {pl : Plan} {k : IntKind} {q : Int} (q' : Int) (hs : lk e s = some (.int k q)) (hq : q = q') (h : TD P c ops K S N pl (upd e s (.int k q')) H) : TD P c ops K S N pl e H := fun f l ho hs2 a w ha hw hn => h f l ho hs2 a w (ha.setV hs (by rw [hq])) hw hn
/-- an element of a row that is only read -/
theorem TL.loadRowN {rest : List Oper} {d : Nat} {t : TypeId} {p : String} {af : Array Edge} {x : Operand} {b o ty n j : Nat} (r : Row) {vs : List Value} (hx : ev e x = some (.pointer (some ⟨b, o, none⟩))) (hr : r ∈ c.R) (hb : r.b = b) (ho : r.off + j = o) (hL : Agg P ty n) (hvs : (r.cs.drop j).take n = vs) (hn : vs.length = n) (hd : Nat.blt d N = true)
    (h : TL P c ops Q N rest (upd e d (.agg vs.toArray)) H) : TL P c ops Q N (⟨some d, .load ty x, t, p, af, none⟩ :: rest) e H :=
  TL.value' hd (fun a w ha hw => by
    subst hb ho
    have hc := run_loadCells_list (P := P) (w := w) (⟨r.b, r.off + j, none⟩ : Addr) vs (fun q v hq => by
      have hqn : q < n := by rw [← hn]; exact (List.getElem?_eq_some_iff.1 hq).1
      have h1 : r.cs[j + q]? = some v := by rw [← hvs, List.getElem?_take, if_pos hqn, List.getElem?_drop] at hq; exact hq
      have h2 := (hw.rows r hr).1 (j + q) v h1
      unfold Addr.add
      split
      · rename_i h0; subst h0; simpa using h2
      · rw [show r.off + j + q = r.off + (j + q) by omega]; exact h2)
    rw [hn] at hc
    simp [execOp, ha.ev hx, Instr.loadAt, Instr.sureAddr, loadVar, (hL w).1, (hL w).2, hc]) h
theorem TL.loadRow1 {rest : List Oper} {d : Nat} {t : TypeId} {p : String} {af : Array Edge} {x : Operand} {b o ty j : Nat} (r : Row) {v : Value} (hx : ev e x = some (.pointer (some ⟨b, o, none⟩))) (hr : r ∈ c.R) (hb : r.b = b) (ho : r.off + j = o) (hL : One P ty) (hv : r.cs[j]? = some v) (hd : Nat.blt d N = true)
    (h : TL P c ops Q N rest (upd e d v) H) : TL P c ops Q N (⟨some d, .load ty x, t, p, af, none⟩ :: rest) e H :=
  TL.value' hd (fun a w ha hw => by
    subst hb ho
    simp [execOp, ha.ev hx, Instr.loadAt, Instr.sureAddr, loadVar, (hL w).1, (hw.rows r hr).1 j v hv]) h
/-- a slice of cells that lie in a row -/
def SlAt (A : Option Addr) (cs : List Value) (R : List Row) : Prop := cs ≠ [] → ∃ b o, A = some ⟨b, o, none⟩ ∧ (⟨b, o, cs⟩ : Row) ∈ R
def u32s (r : List Int) : List Value := r.map (Value.int .u32)
def rg (r : List Int) (i : Int) : Int := r.getD i.toNat 0
structure Regs (r : List Int) : Prop where
  len : r.length = 32
  ok : ∀ x ∈ r, U32 x
theorem Regs.get {r : List Int} (h : Regs r) {i : Int} (hi : 0 ≤ i ∧ i < 32) : U32 (rg r i) := by
  have hlt : i.toNat < r.length := by rw [h.len]; omega
  unfold rg
  rw [List.getD_eq_getElem?_getD, List.getElem?_eq_getElem hlt]
  exact h.ok _ (List.getElem_mem hlt)
theorem Regs.set {r : List Int} (h : Regs r) (i : Nat) {v : Int} (hv : U32 v) : Regs (r.set i v) :=
  ⟨by simp [h.len], fun x hx => by
    rcases List.mem_or_eq_of_mem_set hx with hx | rfl
    · exact h.ok x hx
    · exact hv⟩
theorem u32s_length (r : List Int) : (u32s r).length = r.length := by simp [u32s]
theorem u32s_get {r : List Int} (h : Regs r) {i : Int} (hi : 0 ≤ i ∧ i < 32) : (u32s r)[0 + i.toNat * 1]? = some (.int .u32 (rg r i)) := by
  have hlt : i.toNat < r.length := by rw [h.len]; omega
  simp [u32s, rg, hlt]
theorem setL_u32s {r : List Int} (k : Nat) (v : Int) : setL (u32s r) (0 + k * 1) [.int .u32 v] = u32s (r.set k v) := by
  simp [setL, u32s, List.map_set]
theorem u32s_all {r : List Int} (h : Regs r) : ((u32s r).drop 0).take 32 = u32s r := by
  rw [List.drop_zero, List.take_of_length_le (by rw [u32s_length, h.len]; omega)]
theorem setL_all : ∀ (vs cs : List Value), vs.length = cs.length → setL cs 0 vs = vs := by
  have key : ∀ (vs cs pre : List Value), vs.length = cs.length → setL (pre ++ cs) pre.length vs = pre ++ vs := by
    intro vs
    induction vs with
    | nil =>
      intro cs pre h
      have : cs = [] := List.length_eq_zero_iff.1 h.symm
      simp [setL, this]
    | cons v r ih =>
      intro cs pre h
      match cs, h with
      | x :: xs, h =>
        simp only [List.length_cons, Nat.add_right_cancel_iff] at h
        have := ih xs (pre ++ [v]) h
        simp only [setL]
        simpa using this
  intro vs cs h
  simpa using key vs cs [] h
theorem plain_u32s (r : List Int) : (u32s r).all plainV = true := by simp [u32s, plainV]
theorem run_eqBool {xt : TypeId} {u v : Bool} {w : World} (hT : P.underlying xt = some .bool) : (Op.equal xt (.bool u) (.bool v)).run P w = .ok (u == v) w := by
  have key : ∀ dd, (Op.equalIn (dd + 1) xt (.bool u) (.bool v)).run P w = .ok (u == v) w := fun dd => by simp [Op.equalIn, underlying, hT]
  exact key 9999
theorem TL.eqlBool {rest : List Oper} {d : Nat} {t : TypeId} {p : String} {af : Array Edge} {x y : Operand} {u v : Bool} {xt yt : TypeId} (hx : ev e x = some (.bool u)) (hy : ev e y = some (.bool v)) (hT : P.underlying xt = some .bool) (hd : Nat.blt d N = true)
    (h : TL P c ops Q N rest (upd e d (.bool (u == v))) H) : TL P c ops Q N (⟨some d, .binOp .eql xt x y yt, t, p, af, none⟩ :: rest) e H :=
  TL.value' hd (fun a w ha _ => by simp [execOp, ha.ev hx, ha.ev hy, eqGuard, binOp, run_eqBool hT]) h
theorem TL.neqBool {rest : List Oper} {d : Nat} {t : TypeId} {p : String} {af : Array Edge} {x y : Operand} {u v : Bool} {xt yt : TypeId} (hx : ev e x = some (.bool u)) (hy : ev e y = some (.bool v)) (hT : P.underlying xt = some .bool) (hd : Nat.blt d N = true)
    (h : TL P c ops Q N rest (upd e d (.bool (!(u == v)))) H) : TL P c ops Q N (⟨some d, .binOp .neq xt x y yt, t, p, af, none⟩ :: rest) e H :=
  TL.value' hd (fun a w ha _ => by simp [execOp, ha.ev hx, ha.ev hy, eqGuard, binOp, run_eqBool hT]) h
end
/-- what is asked of truths, as sentences on numbers -/
theorem u32s_take {r : List Int} {n : Nat} (h : r.length = n) : ((u32s r).drop 0).take n = u32s r := by
  rw [List.drop_zero, List.take_of_length_le (by rw [u32s_length]; omega)]
theorem u32s_len {r : List Int} {n : Nat} (h : r.length = n) : (u32s r).length = n := by rw [u32s_length, h]
theorem strB (s u : ByteArray) : (s.data.toList == u.data.toList) = decide (s = u) := by
  rw [Bool.eq_iff_iff, beq_iff_eq, decide_eq_true_eq]
  refine ⟨fun h => ?_, fun h => by rw [h]⟩
  cases s
  cases u
  simp only [ByteArray.mk.injEq]
  exact Array.toList_inj.1 h
end Go.Z

set_option linter.unusedSimpArgs false
set_option linter.unusedVariables false
namespace Go.Z
inductive Kd where
  | i (k : IntKind)
  | b
  | s
def Kd.fits : Kd → Value → Prop
  | .i k, v => ∃ n, v = .int k n
  | .b, v => ∃ x, v = .bool x
  | .s, v => ∃ x, v = .string x
def FitsK : List Kd → List Value → Prop
  | [], [] => True
  | k :: ks, v :: vs => k.fits v ∧ FitsK ks vs
  | _, _ => False
theorem FitsK.len : ∀ {ks : List Kd} {vs : List Value}, FitsK ks vs → vs.length = ks.length
  | [], [], _ => rfl
  | _ :: _, _ :: _, h => by rw [List.length_cons, List.length_cons, FitsK.len h.2]
  | [], _ :: _, h => h.elim
  | _ :: _, [], h => h.elim
theorem FitsK.append : ∀ {ks ks' : List Kd} {vs : List Value}, FitsK (ks ++ ks') vs → FitsK ks (vs.take ks.length) ∧ FitsK ks' (vs.drop ks.length)
  | [], _, _, h => ⟨trivial, h⟩
  | _ :: _, _, [], h => h.elim
  | _ :: _, _, _ :: _, h => ⟨⟨h.1, (FitsK.append h.2).1⟩, (FitsK.append h.2).2⟩
theorem FitsK.ints {k : IntKind} : ∀ (r : List Int), FitsK (List.replicate r.length (.i k)) (r.map (Value.int k))
  | [] => trivial
  | x :: r => ⟨⟨x, rfl⟩, FitsK.ints r⟩
section
variable {P : Program}
/-- one part's equality -/
def PartEq (P : Program) (d : Nat) (t : TypeId) (ks : List Kd) : Prop :=
  ∀ (w : World) (xs ys : List Value) (o : Nat), FitsK ks ((xs.drop o).take ks.length) → FitsK ks ((ys.drop o).take ks.length) →
    ∃ a a' b, (part t xs.toArray o).run P w = .ok a w ∧ (part t ys.toArray o).run P w = .ok a' w ∧ (Op.equalIn d t a a').run P w = .ok b w ∧ (b = true ↔ (xs.drop o).take ks.length = (ys.drop o).take ks.length)
/-- a whole one's -/
def AggEq (P : Program) (d : Nat) (t : TypeId) (ks : List Kd) : Prop :=
  ∀ (w : World) (xs ys : List Value), FitsK ks xs → FitsK ks ys → ∃ b, (Op.equalIn d t (.agg xs.toArray) (.agg ys.toArray)).run P w = .ok b w ∧ (b = true ↔ xs = ys)
theorem take1 {xs : List Value} {o : Nat} {k : Kd} (h : FitsK [k] ((xs.drop o).take 1)) : ∃ v, xs[o]? = some v ∧ (xs.drop o).take 1 = [v] ∧ k.fits v := by
  cases hx : xs.drop o with
  | nil => rw [hx] at h; exact h.elim
  | cons v r =>
    rw [hx] at h
    have h0 : (xs.drop o)[0]? = some v := by rw [hx]; rfl
    rw [List.getElem?_drop] at h0
    exact ⟨v, h0, rfl, h.1⟩
theorem run_part1 {t : TypeId} (hL : One P t) {w : World} {xs : List Value} {o : Nat} {v : Value} (h : xs[o]? = some v) : (part t xs.toArray o).run P w = .ok v w := by
  simp [part, (hL w).1, h]
theorem PartEq.int {d : Nat} {t : TypeId} {k k' : IntKind} (hL : One P t) (hu : P.underlying t = some (.int k')) : PartEq P (d + 1) t [.i k] := fun w xs ys o hx hy => by
  obtain ⟨v, h1, h2, n, rfl⟩ := take1 hx
  obtain ⟨v', h1', h2', n', rfl⟩ := take1 hy
  refine ⟨_, _, _, run_part1 hL h1, run_part1 hL h1', run_equalIn_int w d t k k' n n' hu, ?_⟩
  show _ ↔ (xs.drop o).take 1 = (ys.drop o).take 1
  rw [h2, h2']
  simp
theorem PartEq.bool {d : Nat} {t : TypeId} (hL : One P t) (hu : P.underlying t = some .bool) : PartEq P (d + 1) t [.b] := fun w xs ys o hx hy => by
  obtain ⟨v, h1, h2, n, rfl⟩ := take1 hx
  obtain ⟨v', h1', h2', n', rfl⟩ := take1 hy
  refine ⟨_, _, _, run_part1 hL h1, run_part1 hL h1', run_equalIn_bool' w d t n n' hu, ?_⟩
  show _ ↔ (xs.drop o).take 1 = (ys.drop o).take 1
  rw [h2, h2']
  simp
theorem PartEq.agg {d : Nat} {t : TypeId} {ks : List Kd} (hL : Agg P t ks.length) (h : AggEq P d t ks) : PartEq P d t ks := fun w xs ys o hx hy => by
  have hp : ∀ zs : List Value, (part t zs.toArray o).run P w = .ok (.agg ((zs.drop o).take ks.length).toArray) w := fun zs => by
    simp [part, (hL w).1, (hL w).2, List.take_drop]
  obtain ⟨b, hb, hb'⟩ := h w _ _ hx hy
  exact ⟨_, _, b, hp xs, hp ys, hb, hb'⟩
inductive FlatF (P : Program) (d : Nat) : List Field → Nat → List Kd → Prop
  | nil {o : Nat} : FlatF P d [] o []
  | cons {f : Field} {fs : List Field} {o : Nat} {ks ks' : List Kd} (hn : f.name ≠ "_") (ho : f.offset = o) (hp : PartEq P d f.type ks) (hr : FlatF P d fs (o + ks.length) ks') : FlatF P d (f :: fs) o (ks ++ ks')
theorem FlatF.run {d : Nat} {fs : List Field} {o : Nat} {ks : List Kd} (h : FlatF P d fs o ks) : ∀ (w : World) (xs ys : List Value), FitsK ks (xs.drop o) → FitsK ks (ys.drop o) →
    ∃ b, (Op.eqFields d xs.toArray ys.toArray fs).run P w = .ok b w ∧ (b = true ↔ xs.drop o = ys.drop o) := by
  induction h with
  | nil =>
    intro w xs ys hx hy
    refine ⟨true, by simp [Op.eqFields], ?_⟩
    have h1 := hx.len
    have h2 := hy.len
    simp only [List.length_nil] at h1 h2
    rw [List.length_eq_zero_iff.1 h1, List.length_eq_zero_iff.1 h2]
    simp
  | @cons f fs o ks ks' hn ho hp _ ih =>
    intro w xs ys hx hy
    obtain ⟨hx1, hx2⟩ := hx.append
    obtain ⟨hy1, hy2⟩ := hy.append
    obtain ⟨a, a', b, h1, h2, h3, h4⟩ := hp w xs ys o hx1 hy1
    rw [List.drop_drop] at hx2 hy2
    obtain ⟨b', h5, h6⟩ := ih w xs ys hx2 hy2
    have hsplit : ∀ zs zs' : List Value, zs = zs' ↔ zs.take ks.length = zs'.take ks.length ∧ zs.drop ks.length = zs'.drop ks.length := fun zs zs' =>
      ⟨fun h => by rw [h]; exact ⟨rfl, rfl⟩, fun h => by rw [← List.take_append_drop ks.length zs, ← List.take_append_drop ks.length zs', h.1, h.2]⟩
    rw [hsplit (xs.drop o) (ys.drop o), List.drop_drop, List.drop_drop]
    subst ho
    cases b with
    | true =>
      refine ⟨b', by simp [Op.eqFields, hn, h1, h2, h3, h5], ?_⟩
      rw [h6]
      exact ⟨fun h => ⟨h4.1 rfl, h⟩, fun h => h.2⟩
    | false =>
      refine ⟨false, by simp [Op.eqFields, hn, h1, h2, h3], ?_⟩
      exact ⟨fun h => (by cases h), fun h => h4.2 h.1⟩
theorem AggEq.struct {d : Nat} {t : TypeId} {ks : List Kd} {fs : Array Field} (hu : P.underlying t = some (.struct fs)) (hs : P.stoodInHeld t = false) (hf : FlatF P d fs.toList 0 ks) : AggEq P (d + 1) t ks := fun w xs ys hx hy => by
  have hfo : P.fieldsOf t = fs := by simp [Program.fieldsOf, hu]
  rw [run_equalIn_struct w d t _ _ (by rw [hfo]; exact hu) hs, hfo]
  exact hf.run w xs ys hx hy
def eqElems (d : Nat) (e : TypeId) (n : Nat) (xs ys : Array Value) : List Nat → Sem Bool
  | [] => pure true
  | i :: r => do
    let a ← part e xs (i * n)
    let b ← part e ys (i * n)
    let q ← Op.equalIn d e a b
    if (!q) = true then pure false else eqElems d e n xs ys r
theorem run_equalIn_array {d : Nat} {t e : TypeId} {len n : Nat} (w : World) (xs ys : Array Value) (hu : P.underlying t = some (.array len e)) (hn : ∀ w, (sizeOf e).run P w = .ok n w) :
    (Op.equalIn (d + 1) t (.agg xs) (.agg ys)).run P w = (eqElems d e n xs ys (List.range' 0 len)).run P w := by
  simp only [Op.equalIn, Sem.run_bind, run_underlying hu, Result.andThen_ok, hn]
  rw [Std.Legacy.Range.forIn_eq_forIn_range']
  simp only [Std.Legacy.Range.size, Nat.sub_zero, Nat.add_sub_cancel, Nat.div_one]
  generalize List.range' 0 len 1 = l
  clear hu
  induction l generalizing w with
  | nil => simp [eqElems]
  | cons i l ih =>
    simp only [List.forIn_cons, eqElems, Sem.run_bind, Sem.run_ite]
    generalize (part e xs (i * n)).run P w = r1
    cases r1 with
    | ok a w1 =>
      simp only [Result.andThen_ok]
      generalize (part e ys (i * n)).run P w1 = r2
      cases r2 with
      | ok b w2 =>
        simp only [Result.andThen_ok]
        generalize (Op.equalIn d e a b).run P w2 = r3
        cases r3 with
        | ok r w3 =>
          cases r
          · simp only [Result.andThen_ok, Bool.not_false, if_true, Sem.run_pure]
          · simp only [Result.andThen_ok, Bool.not_true, Bool.false_eq_true, if_false, Sem.run_pure]
            exact ih w3
        | halt x w3 => simp [Result.andThen]
      | halt x w2 => simp [Result.andThen]
    | halt x w1 => simp [Result.andThen]
theorem AggEq.arr {d : Nat} {t e : TypeId} {ks : List Kd} {len : Nat} (hu : P.underlying t = some (.array len e)) (hn : ∀ w, (sizeOf e).run P w = .ok ks.length w) (hp : PartEq P d e ks) :
    AggEq P (d + 1) t (List.replicate len ks).flatten := fun w xs ys hx hy => by
  rw [run_equalIn_array w _ _ hu hn]
  have key : ∀ (m i : Nat) (w : World), FitsK (List.replicate m ks).flatten (xs.drop (i * ks.length)) → FitsK (List.replicate m ks).flatten (ys.drop (i * ks.length)) →
      ∃ b, (eqElems d e ks.length xs.toArray ys.toArray (List.range' i m)).run P w = .ok b w ∧ (b = true ↔ xs.drop (i * ks.length) = ys.drop (i * ks.length)) := by
    intro m
    induction m with
    | zero =>
      intro i w hx hy
      refine ⟨true, by simp [eqElems], ?_⟩
      have h1 := hx.len
      have h2 := hy.len
      simp only [List.replicate_zero, List.flatten_nil, List.length_nil] at h1 h2
      rw [List.length_eq_zero_iff.1 h1, List.length_eq_zero_iff.1 h2]
      simp
    | succ m ih =>
      intro i w hx hy
      rw [List.replicate_succ, List.flatten_cons] at hx hy
      obtain ⟨hx1, hx2⟩ := hx.append
      obtain ⟨hy1, hy2⟩ := hy.append
      obtain ⟨a, a', b, h1, h2, h3, h4⟩ := hp w xs ys _ hx1 hy1
      have hi : i * ks.length + ks.length = (i + 1) * ks.length := by rw [Nat.add_mul, Nat.one_mul]
      rw [List.drop_drop, hi] at hx2 hy2
      obtain ⟨b', h5, h6⟩ := ih (i + 1) w hx2 hy2
      have hsplit : ∀ zs zs' : List Value, zs = zs' ↔ zs.take ks.length = zs'.take ks.length ∧ zs.drop ks.length = zs'.drop ks.length := fun zs zs' =>
        ⟨fun h => by rw [h]; exact ⟨rfl, rfl⟩, fun h => by rw [← List.take_append_drop ks.length zs, ← List.take_append_drop ks.length zs', h.1, h.2]⟩
      rw [hsplit (xs.drop _) (ys.drop _), List.drop_drop, List.drop_drop, hi, List.range'_succ]
      cases b with
      | true =>
        refine ⟨b', by simp [eqElems, h1, h2, h3, h5], ?_⟩
        rw [h6]
        exact ⟨fun h => ⟨h4.1 rfl, h⟩, fun h => h.2⟩
      | false =>
        refine ⟨false, by simp [eqElems, h1, h2, h3], ?_⟩
        exact ⟨fun h => (by cases h), fun h => h4.2 h.1⟩
  have := key len 0 w (by simpa using hx) (by simpa using hy)
  simpa using this
end
section
variable {P : Program} {c : Cx} {ops : Array Oper} {Q : Exit → Act → World → Prop} {N : Nat} {e : Env} {H : List Blk} {rest : List Oper} {d : Nat} {t : TypeId} {p : String} {af : Array Edge} {yt : TypeId}
theorem TL.eqlAgg (pr : Prop) [Decidable pr] {x y : Operand} {ty : TypeId} {xs ys : List Value} {ks : List Kd} (hx : ev e x = some (.agg xs.toArray)) (hy : ev e y = some (.agg ys.toArray)) (hE : AggEq P 10000 ty ks) (hm : P.eqGuardType P.depth ty = false)
    (hfx : FitsK ks xs) (hfy : FitsK ks ys) (hp : xs = ys ↔ pr) (hd : Nat.blt d N = true)
    (h : TL P c ops Q N rest (upd e d (.bool (decide pr))) H) : TL P c ops Q N (⟨some d, .binOp .eql ty x y yt, t, p, af, none⟩ :: rest) e H :=
  TL.value' hd (fun a w ha _ => by
    obtain ⟨b, hb, hb'⟩ := hE w xs ys hfx hfy
    have : b = decide pr := by rw [Bool.eq_iff_iff, decide_eq_true_eq, hb', hp]
    simp [execOp, ha.ev hx, ha.ev hy, run_eqGuard_agg w _ _ _ _ _ _ hm, run_eql_struct, hb, this]) h
theorem TL.neqAgg (pr : Prop) [Decidable pr] {x y : Operand} {ty : TypeId} {xs ys : List Value} {ks : List Kd} (hx : ev e x = some (.agg xs.toArray)) (hy : ev e y = some (.agg ys.toArray)) (hE : AggEq P 10000 ty ks) (hm : P.eqGuardType P.depth ty = false)
    (hfx : FitsK ks xs) (hfy : FitsK ks ys) (hp : xs = ys ↔ pr) (hd : Nat.blt d N = true)
    (h : TL P c ops Q N rest (upd e d (.bool (!decide pr))) H) : TL P c ops Q N (⟨some d, .binOp .neq ty x y yt, t, p, af, none⟩ :: rest) e H :=
  TL.value' hd (fun a w ha _ => by
    obtain ⟨b, hb, hb'⟩ := hE w xs ys hfx hfy
    have : b = decide pr := by rw [Bool.eq_iff_iff, decide_eq_true_eq, hb', hp]
    simp [execOp, ha.ev hx, ha.ev hy, run_eqGuard_agg w _ _ _ _ _ _ hm, run_neq_struct, hb, this]) h
end
end Go.Z

set_option linter.unusedSimpArgs false
set_option linter.unusedVariables false
namespace Go.Z
theorem fill_mono {p q : Nat → Option (Nat × Nat)} (hpq : ∀ i x, p i = some x → q i = some x) : ∀ (parts : List (Nat × Value)) (cs out : Array Value), Instr.fill p cs parts = some out → Instr.fill q cs parts = some out
  | [], _, _, h => h
  | (i, v) :: r, cs, out, h => by
    simp only [Instr.fill] at h ⊢
    split at h
    · cases h
    · rename_i o s hp
      rw [hpq _ _ hp]
      simp only
      split at h
      · cases h
      · rename_i hc
        rw [if_neg hc]
        exact fill_mono hpq r _ _ h
theorem flat_drop {α : Type} {f : α → List Value} {n : Nat} (hf : ∀ x, (f x).length = n) : ∀ {l : List α} {i : Nat} (h : i < l.length), ((l.flatMap f).drop (i * n)).take n = f l[i]
  | x :: r, 0, _ => by
    rw [Nat.zero_mul, List.drop_zero, List.flatMap_cons, List.take_append_of_le_length (by rw [hf]; exact Nat.le_refl n), ← hf x, List.take_length]
    rfl
  | x :: r, i + 1, h => by
    have hn : (i + 1) * n = (f x).length + i * n := by rw [hf, Nat.add_mul]; omega
    rw [List.flatMap_cons, hn, List.drop_append, Nat.add_sub_cancel_left, List.drop_of_length_le (by omega), List.nil_append]
    exact flat_drop hf (l := r) (by simpa using h)
theorem flat_slot {α : Type} {f : α → List Value} {n : Nat} (hf : ∀ x, (f x).length = n) {l : List α} {i : Nat} (h : i < l.length) {k : Nat} (hk : k < n) : (l.flatMap f)[i * n + k]? = (f l[i])[k]? := by
  rw [← flat_drop hf h, List.getElem?_take, if_pos hk, List.getElem?_drop]
section
variable {P : Program}
theorem Bld.mkS {t : TypeId} {fs : Array Field} {v : Value} {zero : List Value} {pl : List (Nat × Nat)} (hu : P.underlying t = some (.struct fs)) (hz : Zro P t v) (hv : v.cells = zero.toArray)
    (hpl : ∀ w, (fs.mapM (fun f => do pure (f.offset, ← sizeOf f.type) : Field → Sem (Nat × Nat))).run P w = .ok pl.toArray w) : Bld P t zero pl where
  ok := fun w parts out hf => by
    have hf' : Instr.fill (fun i => pl.toArray[i]?) zero.toArray parts.toList = some out := by simpa using hf
    simp only [Instr.build, Sem.run_bind, hz w, Result.andThen_ok, run_underlying hu, hpl w, hv, hf']
    rfl
theorem Bld.mkA {t e : TypeId} {n sz : Nat} {v : Value} {zero : List Value} {pl : List (Nat × Nat)} (hu : P.underlying t = some (.array n e)) (hz : Zro P t v) (hv : v.cells = zero.toArray) (hs : ∀ w, (sizeOf e).run P w = .ok sz w)
    (hpl : pl = (List.range n).map fun i => (i * sz, sz)) : Bld P t zero pl where
  ok := fun w parts out hf => by
    have hf' := fill_mono (q := fun i => some (i * sz, sz)) (fun i x hx => by
      subst hpl
      simp only [List.getElem?_map, Option.map_eq_some_iff] at hx
      obtain ⟨j, hj, rfl⟩ := hx
      have := List.getElem?_eq_some_iff.1 hj
      obtain ⟨_, hj⟩ := this
      simp only [List.getElem_range] at hj
      rw [hj]) _ _ _ hf
    simp only [Instr.build, Sem.run_bind, hz w, Result.andThen_ok, run_underlying hu, hs w, hv, hf']
    rfl
structure SlcB (P : Program) (t e sz : Nat) (zero : List Value) : Prop where
  und : P.underlying t = some (.slice e)
  size : ∀ w, (sizeOf e).run P w = .ok sz w
  zer : ∃ v, Zro P e v ∧ v.cells = zero.toArray
variable {c : Cx} {ops : Array Oper} {Q : Exit → Act → World → Prop} {N : Nat} {e : Env} {H : List Blk} {rest : List Oper} {d : Nat} {t : TypeId} {p : String} {af : Array Edge}
theorem TL.buildSlice {ty el sz len : Nat} {zero z0 : List Value} {parts : Array (Nat × Operand)} {pl : List (Nat × Nat)} {vs : List (Nat × Value)} {out : List Value} (hB : SlcB P ty el sz zero) (hle : Nat.ble (len * sz) 16777216 = true) (hnz : Nat.beq (len * sz) 0 = false)
    (hz0 : (List.range (len * sz)).map (fun i => zero[i % zero.length]!) = z0) (hpl : pl = (List.range len).map fun i => (i * sz, sz)) (hvs : evp e parts.toList = some vs) (hf : fillL pl z0 vs = some out) (hd : Nat.blt d N = true)
    (h : ∀ b, TL P c ops Q N rest (upd e d (.slice (some ⟨b, 0, none⟩) len len)) (H ++ [⟨b, el, out, (0, 0), true⟩])) : TL P c ops Q N (⟨some d, .buildSlice ty len parts, t, p, af, none⟩ :: rest) e H := fun a w ha hw => by
  have h1 : parts.map (fun (i, x) => (i, a.eval x)) = vs.toArray := Array.toList_inj.1 (by rw [Array.toList_map]; exact ha.evp hvs)
  obtain ⟨v, hzv, hvc⟩ := hB.zer
  have h2 : Instr.fill (fun i => some (i * sz, sz)) z0.toArray vs = some out.toArray := fill_mono (fun i x hx => by
      subst hpl
      simp only [List.getElem?_map, Option.map_eq_some_iff] at hx
      obtain ⟨j, hj, rfl⟩ := hx
      obtain ⟨_, hj⟩ := List.getElem?_eq_some_iff.1 hj
      simp only [List.getElem_range] at hj
      rw [hj]) _ _ _ (fill_of pl vs z0 out hf)
  have h3 : (Array.range (len * sz)).map (fun i => zero.toArray[i % zero.toArray.size]!) = z0.toArray := by
    apply Array.toList_inj.1
    rw [Array.toList_map, Array.toList_range, ← hz0]
    simp
  have hle' : ¬ len * sz > 2 ^ 24 := by have := Nat.le_of_ble_eq_true hle; omega
  have hnz' : ¬ len * sz = 0 := fun h0 => by rw [h0] at hnz; cases hnz
  have hrun : (execOp a.eval ⟨some d, .buildSlice ty len parts, t, p, af, none⟩).run P w = .ok (.value (.slice (some ⟨w.heap.size, 0, none⟩) len len)) (w.alloc (.cells out.toArray el)) := by
    simp only [execOp, h1, Instr.buildSlice, Sem.run_bind, run_underlying hB.und, Result.andThen_ok, hB.size w, if_neg hle', if_neg hnz', hzv w, hvc, Sem.run_pure, h3, h2]
    simp [newRow]
  refine wpList_plain rfl fun K hK => ?_
  unfold Oper.wp
  rw [hrun, Oper.upon_value]
  exact hK _ _ (h _ _ _ (ha.put _ hd) (hw.alloc el out (0, 0)))
theorem TL.indexN {x y : Operand} {ty n el sz : Nat} {k : IntKind} {m : Int} {cs vs : List Value} (hx : ev e x = some (.agg cs.toArray)) (hy : ev e y = some (.int k m)) (hT : ArrE P ty n el) (hL : Agg P el sz) (hm : 0 ≤ m ∧ m < n) (hv : (cs.drop (m.toNat * sz)).take sz = vs) (hd : Nat.blt d N = true)
    (h : TL P c ops Q N rest (upd e d (.agg vs.toArray)) H) : TL P c ops Q N (⟨some d, .index ty x y, t, p, af, none⟩ :: rest) e H :=
  TL.value' hd (fun a w ha _ => by
    simp [execOp, ha.ev hx, ha.ev hy, Instr.index, asIntOf, underlying, hT.ok, hm.1, hm.2, part, (hL w).1, (hL w).2, ← hv, List.take_drop]) h
end
end Go.Z
