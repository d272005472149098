/- Own texts, joined: YLaw, YRow. -/
import Derived.Test.YtfckbimkdjcncaaG4
import Derived.ProofKit
import Derived.OpenShut
import Derived.Below
import Derived.ChangeSame
import Derived.Deep.Slices
import Derived.WideKeyArgs
set_option linter.unusedSimpArgs false
set_option linter.unusedVariables false
namespace Go.Y
open Go.Z (Row Blk Kd U32 RowAt)
/-! ### What an argument's cells are -/
inductive It where
  | i (k : IntKind)
  | b
  | s
  | sl (id : Nat)
  | ar (id n : Nat)
def rng : IntKind → Int → Prop
  | .u32, n => U32 n
  | .u8, n => 0 ≤ n ∧ n < 256
  | .i64, n => -9223372036854775808 ≤ n ∧ n ≤ 9223372036854775807
  | _, _ => True
theorem rng_of {k : IntKind} {n : Int} (h : (Lit.int k n).wf = true) : rng k n := by
  cases k <;> simp [rng, U32, Lit.wf, IntKind.min, IntKind.max, IntKind.signed, IntKind.bits] at h ⊢ <;> omega
def wfS : Sc → Prop
  | .i k n => rng k n
  | .s l => l.length ≤ 9223372036854775807
  | _ => True
def wfSh (id : Nat) (x : Sh id) : Prop := ∀ y ∈ Sh.f id x, wfS y
def kindS : Kd → Sc → Prop
  | .i k, x => ∃ n, x = .i k n
  | .b, x => ∃ c, x = .b c
  | .s, x => ∃ l, x = .s l
theorem A2.inv0 {α β : Type} {r : α → β → Prop} {ys : List β} (h : A2 r [] ys) : ys = [] := by cases h; rfl
theorem A2.inv {α β : Type} {r : α → β → Prop} {x : α} {xs : List α} {ys : List β} (h : A2 r (x :: xs) ys) : ∃ y zs, ys = y :: zs ∧ r x y ∧ A2 r xs zs := by
  cases h with
  | cons h t => exact ⟨_, _, rfl, h, t⟩
theorem un_of {id : Nat} {xs : List Sc} (hid : id ≤ 8) (h : A2 kindS (ksOf id) xs) : ∃ z : Sh id, Sh.f id z = xs := by
  match id, hid with
  | 0, _ =>
    obtain ⟨x0, y0, e0, ⟨n, f0⟩, h1⟩ := h.inv
    have g := h1.inv0
    subst g e0 f0
    exact ⟨n, rfl⟩
  | 1, _ =>
    obtain ⟨x0, y0, e0, ⟨n, f0⟩, h1⟩ := h.inv
    have g := h1.inv0
    subst g e0 f0
    exact ⟨n, rfl⟩
  | 2, _ =>
    obtain ⟨x0, y0, e0, ⟨n, f0⟩, h1⟩ := h.inv
    have g := h1.inv0
    subst g e0 f0
    exact ⟨n, rfl⟩
  | 3, _ =>
    obtain ⟨x0, y0, e0, ⟨n, f0⟩, h1⟩ := h.inv
    have g := h1.inv0
    subst g e0 f0
    exact ⟨n, rfl⟩
  | 4, _ =>
    obtain ⟨x0, y0, e0, ⟨n, f0⟩, h1⟩ := h.inv
    have g := h1.inv0
    subst g e0 f0
    exact ⟨n, rfl⟩
  | 5, _ =>
    obtain ⟨x0, y0, e0, ⟨a, f0⟩, h1⟩ := h.inv
    obtain ⟨x1, y1, e1, ⟨b, f1⟩, h2⟩ := h1.inv
    obtain ⟨x2, y2, e2, ⟨c, f2⟩, h3⟩ := h2.inv
    obtain ⟨x3, y3, e3, ⟨d, f3⟩, h4⟩ := h3.inv
    obtain ⟨x4, y4, e4, ⟨e, f4⟩, h5⟩ := h4.inv
    obtain ⟨x5, y5, e5, ⟨f, f5⟩, h6⟩ := h5.inv
    have g := h6.inv0
    subst g e5 f5 e4 f4 e3 f3 e2 f2 e1 f1 e0 f0
    exact ⟨⟨a, b, c, d, e, f⟩, rfl⟩
  | 6, _ =>
    obtain ⟨x0, y0, e0, ⟨a, f0⟩, h1⟩ := h.inv
    obtain ⟨x1, y1, e1, ⟨b, f1⟩, h2⟩ := h1.inv
    have g := h2.inv0
    subst g e1 f1 e0 f0
    exact ⟨⟨a, b⟩, rfl⟩
  | 7, _ =>
    obtain ⟨x0, y0, e0, ⟨a, f0⟩, h1⟩ := h.inv
    obtain ⟨x1, y1, e1, ⟨b, f1⟩, h2⟩ := h1.inv
    obtain ⟨x2, y2, e2, ⟨c, f2⟩, h3⟩ := h2.inv
    have g := h3.inv0
    subst g e2 f2 e1 f1 e0 f0
    exact ⟨⟨a, b, c⟩, rfl⟩
  | 8, _ =>
    obtain ⟨x0, y0, e0, ⟨a, f0⟩, h1⟩ := h.inv
    obtain ⟨x1, y1, e1, ⟨b, f1⟩, h2⟩ := h1.inv
    obtain ⟨x2, y2, e2, ⟨c, f2⟩, h3⟩ := h2.inv
    obtain ⟨x3, y3, e3, ⟨d, f3⟩, h4⟩ := h3.inv
    have g := h4.inv0
    subst g e3 f3 e2 f2 e1 f1 e0 f0
    exact ⟨⟨a, b, c, d⟩, rfl⟩
/-! ### Types, laid flat -/
def flatFs {α : Type} (P : Program) (g : TypeId → Option (List α)) (sz : α → Nat) : List Field → Nat → Option (List α × Nat)
  | [], o => some ([], o)
  | fd :: r, o => bif Nat.beq fd.offset o then (g fd.type).bind fun ks => bif Nat.beq (P.cellsOf fd.type) ((ks.map sz).foldr (· + ·) 0) then (flatFs P g sz r (o + P.cellsOf fd.type)).map fun x => (ks ++ x.1, x.2) else none else none
def flatK (P : Program) : Nat → TypeId → Option (List Kd)
  | 0, _ => none
  | f + 1, t => match P.underlying t with
    | some .bool => some [.b]
    | some (.int k) => some [.i k]
    | some .string => some [.s]
    | some (.struct fs) => (flatFs P (flatK P f) (fun _ => 1) fs.toList 0).bind fun x => bif Nat.beq x.2 (P.cellsOf t) then some x.1 else none
    | _ => none
def eqKs : List Kd → List Kd → Bool
  | [], [] => true
  | x :: r, y :: q => eqK x y && eqKs r q
  | _, _ => false
def idOf (ks : List Kd) : Nat → Option Nat
  | 0 => none
  | n + 1 => bif eqKs (ksOf n) ks then some n else idOf ks n
def idK (P : Program) (f : Nat) (e : TypeId) : Option Nat := (flatK P f e).bind fun ks => (idOf ks 9).bind fun id => bif Nat.beq (P.cellsOf e) (Sh.sz id) then some id else none
def itSz : It → Nat
  | .ar id n => n * Sh.sz id
  | _ => 1
def flatI (P : Program) : Nat → TypeId → Option (List It)
  | 0, _ => none
  | f + 1, t => match P.underlying t with
    | some .bool => some [.b]
    | some (.int k) => some [.i k]
    | some .string => some [.s]
    | some (.slice e) => (idK P f e).map fun id => [.sl id]
    | some (.array n e) => (idK P f e).bind fun id => bif Nat.beq (P.cellsOf t) (n * Sh.sz id) then some [.ar id n] else none
    | some (.struct fs) => (flatFs P (flatI P f) itSz fs.toList 0).bind fun x => bif Nat.beq x.2 (P.cellsOf t) then some x.1 else none
    | _ => none
theorem eqK_iff {u v : Kd} (h : eqK u v = true) : u = v := by
  cases u <;> cases v <;> simp [eqK] at h ⊢
  rename_i k k'
  cases k <;> cases k' <;> simp [kc] at h ⊢
theorem eqKs_iff : ∀ {a b : List Kd}, eqKs a b = true → a = b
  | [], [], _ => rfl
  | [], _ :: _, h => by cases h
  | _ :: _, [], h => by cases h
  | x :: r, y :: q, h => by
    simp only [eqKs, Bool.and_eq_true] at h
    rw [eqK_iff h.1, eqKs_iff h.2]
theorem idOf_iff {ks : List Kd} : ∀ {n id : Nat}, idOf ks n = some id → id < n ∧ ksOf id = ks
  | 0, _, h => by cases h
  | n + 1, id, h => by
    simp only [idOf] at h
    cases hb : eqKs (ksOf n) ks with
    | true => simp only [hb, cond_true, Option.some.injEq] at h; subst h; exact ⟨Nat.lt_succ_self _, eqKs_iff hb⟩
    | false => simp only [hb, cond_false] at h; obtain ⟨h1, h2⟩ := idOf_iff h; exact ⟨by omega, h2⟩
section
variable {H : Type} {enc : TypeId × Value → H} {P : Program} {w : World} {base : Nat} {spare : Nat → Bool} {held : Bool}
/-- a struct's fields, of which each reads -/
theorem flatFs_ok {α : Type} {g : TypeId → Option (List α)} {sz : α → Nat} {Q : List α → List Value → Prop} (h0 : Q [] []) (happ : ∀ a b c d, Q a c → Q b d → Q (a ++ b) (c ++ d)) {cs : List Value} :
    ∀ {fs : List Field} {o o' : Nat} {its : List α}, flatFs P g sz fs o = some (its, o') → o' ≤ cs.length →
      (∀ fd ∈ fs, ∀ ks, g fd.type = some ks → Q ks ((cs.drop fd.offset).take (P.cellsOf fd.type))) → o ≤ o' ∧ Q its ((cs.drop o).take (o' - o))
  | [], o, o', its, h, _, _ => by
    simp only [flatFs, Option.some.injEq, Prod.mk.injEq] at h
    obtain ⟨rfl, rfl⟩ := h
    exact ⟨Nat.le_refl _, by simpa using h0⟩
  | fd :: r, o, o', its, h, hl, hq => by
    simp only [flatFs] at h
    cases hb : Nat.beq fd.offset o with
    | false => rw [hb] at h; cases h
    | true =>
      rw [hb, cond_true] at h
      have ho := Nat.eq_of_beq_eq_true hb
      rw [Option.bind_eq_some_iff] at h
      obtain ⟨ks, hk, h⟩ := h
      cases hc : Nat.beq (P.cellsOf fd.type) ((ks.map sz).foldr (· + ·) 0) with
      | false => rw [hc] at h; cases h
      | true =>
        rw [hc, cond_true, Option.map_eq_some_iff] at h
        obtain ⟨⟨js, o2⟩, h2, he⟩ := h
        simp only [Prod.mk.injEq] at he
        obtain ⟨rfl, rfl⟩ := he
        obtain ⟨h3, h4⟩ := flatFs_ok h0 happ h2 hl (fun x hx => hq x (List.mem_cons_of_mem _ hx))
        have h5 := hq fd List.mem_cons_self ks hk
        rw [ho] at h5
        refine ⟨by omega, ?_⟩
        have e : (cs.drop o).take (o2 - o) = (cs.drop o).take (P.cellsOf fd.type) ++ (cs.drop (o + P.cellsOf fd.type)).take (o2 - (o + P.cellsOf fd.type)) := by
          rw [show o2 - o = P.cellsOf fd.type + (o2 - (o + P.cellsOf fd.type)) by omega, List.take_add, List.drop_drop]
        rw [e]
        exact happ _ _ _ _ h5 h4
/-- cells of plain kinds -/
def QK (ks : List Kd) (cs : List Value) : Prop := ∃ xs, A2 kindS ks xs ∧ (∀ y ∈ xs, wfS y) ∧ ∀ ρ R, A2 (repS ρ R) xs cs
theorem QK.app {a b : List Kd} {c d : List Value} (h1 : QK a c) (h2 : QK b d) : QK (a ++ b) (c ++ d) := by
  obtain ⟨xs, p1, p2, p3⟩ := h1
  obtain ⟨ys, q1, q2, q3⟩ := h2
  exact ⟨xs ++ ys, p1.app q1, fun y hy => (List.mem_append.1 hy).elim (p2 y) (q2 y), fun ρ R => (p3 ρ R).app (q3 ρ R)⟩
theorem QK.nil : QK [] [] := ⟨[], .nil, (fun y hy => by cases hy), fun _ _ => .nil⟩
theorem str_len (s : ByteArray) : s.data.toList.length = s.size := Array.length_toList
theorem flatK_ok : ∀ {f : Nat} {t : TypeId} {ks : List Kd} {fuel : Nat} {cs : List Value} {x : DataW H × List MemPlace}, flatK P f t = some ks → DataW.trod enc P w base spare held fuel t cs = some x → QK ks cs
  | 0, _, _, _, _, _, h, _ => by cases h
  | f + 1, t, ks, fuel, cs, x, h, hd => by
    simp only [flatK] at h
    split at h
    · rename_i ht
      cases h
      obtain ⟨b, rfl, _⟩ := DataW.trod_bool ht hd
      exact ⟨[.b b], .cons ⟨b, rfl⟩ .nil, (fun y hy => by simp at hy; subst hy; trivial), fun _ _ => .cons rfl .nil⟩
    · rename_i k ht
      cases h
      obtain ⟨n, rfl, _, hw⟩ := DataW.trod_int ht hd
      exact ⟨[.i k n], .cons ⟨n, rfl⟩ .nil, (fun y hy => by simp at hy; subst hy; exact rng_of hw), fun _ _ => .cons rfl .nil⟩
    · rename_i ht
      cases h
      obtain ⟨s, rfl, _, hs⟩ := DataW.trod_string ht hd
      exact ⟨[.s s.data.toList], .cons ⟨_, rfl⟩ .nil, (fun y hy => by simp at hy; subst hy; show _ ≤ _; rw [str_len]; exact hs), fun _ _ => .cons (congrArg Value.string (string_eta s)) .nil⟩
    · rename_i fs ht
      rw [Option.bind_eq_some_iff] at h
      obtain ⟨⟨its, o⟩, h1, h2⟩ := h
      cases hb : Nat.beq o (P.cellsOf t) with
      | false => rw [hb] at h2; cases h2
      | true =>
        rw [hb, cond_true] at h2
        cases h2
        have ho := Nat.eq_of_beq_eq_true hb
        obtain ⟨xs, n, rfl, _, hl, hlen, hx⟩ := DataW.trod_struct ht hd
        obtain ⟨_, h3⟩ := flatFs_ok (cs := cs) QK.nil (fun _ _ _ _ => QK.app) h1 (by omega) (fun fd hfd ks hk => by
          obtain ⟨i, hi, he⟩ := List.getElem_of_mem hfd
          have hi' : i < fs.size := by simpa using hi
          have e1 := hx i fd (by rw [Array.getElem?_eq_getElem hi']; exact congrArg some (by simpa using he))
          rw [List.getElem?_eq_getElem (by rw [hlen]; exact hi')] at e1
          exact flatK_ok hk e1)
        rw [show o - 0 = cs.length by omega] at h3
        simpa using h3
    · cases h
/-- one element of a form -/
theorem idK_ok {f : Nat} {e : TypeId} {id fuel : Nat} {cs : List Value} {x : DataW H × List MemPlace} (h : idK P f e = some id) (hd : DataW.trod enc P w base spare held fuel e cs = some x) :
    P.cellsOf e = Sh.sz id ∧ ∃ z : Sh id, wfSh id z ∧ ∀ ρ R, A2 (repS ρ R) (Sh.f id z) cs := by
  unfold idK at h
  rw [Option.bind_eq_some_iff] at h
  obtain ⟨ks, hk, h⟩ := h
  rw [Option.bind_eq_some_iff] at h
  obtain ⟨id', hid, h⟩ := h
  cases hb : Nat.beq (P.cellsOf e) (Sh.sz id') with
  | false => rw [hb] at h; cases h
  | true =>
    rw [hb, cond_true] at h
    cases h
    obtain ⟨h1, rfl⟩ := idOf_iff hid
    obtain ⟨xs, p1, p2, p3⟩ := flatK_ok hk hd
    obtain ⟨z, rfl⟩ := un_of (by omega) p1
    exact ⟨Nat.eq_of_beq_eq_true hb, z, p2, p3⟩
theorem idK_sz {f : Nat} {e : TypeId} {id : Nat} (h : idK P f e = some id) : P.cellsOf e = Sh.sz id := by
  unfold idK at h
  rw [Option.bind_eq_some_iff] at h
  obtain ⟨ks, hk, h⟩ := h
  rw [Option.bind_eq_some_iff] at h
  obtain ⟨id', hid, h⟩ := h
  cases hb : Nat.beq (P.cellsOf e) (Sh.sz id') with
  | false => rw [hb] at h; cases h
  | true => rw [hb, cond_true] at h; cases h; exact Nat.eq_of_beq_eq_true hb
/-- elements behind each other -/
theorem chunks {id : Nat} : ∀ {n : Nat} {cs : List Value}, cs.length = n * Sh.sz id → (∀ i, i < n → ∃ z : Sh id, wfSh id z ∧ ∀ ρ R, A2 (repS ρ R) (Sh.f id z) ((cs.drop (i * Sh.sz id)).take (Sh.sz id))) →
    ∃ l : List (Sh id), l.length = n ∧ (∀ x ∈ l, wfSh id x) ∧ ∀ ρ R, A2 (repS ρ R) (l.flatMap (Sh.f id)) cs
  | 0, cs, hl, _ => by
    have : cs = [] := List.length_eq_zero_iff.1 (by simpa using hl)
    subst this
    exact ⟨[], rfl, (fun x hx => by cases hx), fun _ _ => .nil⟩
  | n + 1, cs, hl, h => by
    have hl' : cs.length = n * Sh.sz id + Sh.sz id := by rw [hl, Nat.add_mul, Nat.one_mul]
    obtain ⟨z, hz, hr⟩ := h 0 (Nat.succ_pos _)
    simp only [Nat.zero_mul, List.drop_zero] at hr
    obtain ⟨l, h1, h2, h3⟩ := chunks (id := id) (n := n) (cs := cs.drop (Sh.sz id)) (by rw [List.length_drop]; omega) (fun i hi => by
      obtain ⟨y, hy, hyr⟩ := h (i + 1) (by omega)
      refine ⟨y, hy, fun ρ R => ?_⟩
      rw [List.drop_drop, show Sh.sz id + i * Sh.sz id = (i + 1) * Sh.sz id by rw [Nat.add_mul, Nat.one_mul, Nat.add_comm]]
      exact hyr ρ R)
    refine ⟨z :: l, by simp [h1], fun x hx => ?_, fun ρ R => ?_⟩
    · rcases List.mem_cons.1 hx with rfl | hx
      · exact hz
      · exact h2 x hx
    · have := (hr ρ R).app (h3 ρ R)
      rw [List.take_append_drop] at this
      simpa [List.flatMap_cons] using this
end
/-! ### What holds of arguments -/
inductive InstI : Nat → List It → List Seg → List Rw → Prop where
  | nil {i0 : Nat} : InstI i0 [] [] []
  | i {i0 : Nat} {k : IntKind} {n : Int} {r : List It} {q : List Seg} {W : List Rw} (h : rng k n) (t : InstI i0 r q W) : InstI i0 (.i k :: r) (.one (.i k n) :: q) W
  | b {i0 : Nat} {x : Bool} {r : List It} {q : List Seg} {W : List Rw} (t : InstI i0 r q W) : InstI i0 (.b :: r) (.one (.b x) :: q) W
  | s {i0 : Nat} {l : List UInt8} {r : List It} {q : List Seg} {W : List Rw} (h : l.length ≤ 9223372036854775807) (t : InstI i0 r q W) : InstI i0 (.s :: r) (.one (.s l) :: q) W
  | sl {i0 id n cap : Nat} {A : Option Addr} {l : List (Sh id)} {r : List It} {q : List Seg} {W : List Rw} (h1 : n ≤ cap) (hl : l.length = n) (hw : ∀ x ∈ l, wfSh id x) (t : InstI (i0 + 1) r q W) : InstI i0 (.sl id :: r) (.one (.rs i0 (Sh.sz id) 0 n cap A) :: q) (⟨id, l⟩ :: W)
  | ar {i0 id n : Nat} {l : List (Sh id)} {r : List It} {q : List Seg} {W : List Rw} (hl : l.length = n) (hw : ∀ x ∈ l, wfSh id x) (t : InstI i0 r q W) : InstI i0 (.ar id n :: r) (.arr id n l :: q) W
theorem InstI.app {i0 i1 : Nat} {a b : List It} {ss qs : List Seg} {W V : List Rw} (h : InstI i0 a ss W) (h' : InstI i1 b qs V) (e : i1 = i0 + W.length) : InstI i0 (a ++ b) (ss ++ qs) (W ++ V) := by
  induction h with
  | nil => simp at e; subst e; exact h'
  | i h _ ih => exact .i h (ih e)
  | b _ ih => exact .b (ih e)
  | s h _ ih => exact .s h (ih e)
  | sl h1 hl hw _ ih => exact .sl h1 hl hw (ih (by simp at e; omega))
  | ar hl hw _ ih => exact .ar hl hw (ih e)
def forI : Nat → List It → (List Seg → List Rw → Prop) → Prop
  | _, [], Q => Q [] []
  | i0, .i k :: r, Q => ∀ n : Int, rng k n → forI i0 r fun ss W => Q (.one (.i k n) :: ss) W
  | i0, .b :: r, Q => ∀ x : Bool, forI i0 r fun ss W => Q (.one (.b x) :: ss) W
  | i0, .s :: r, Q => ∀ l : List UInt8, l.length ≤ 9223372036854775807 → forI i0 r fun ss W => Q (.one (.s l) :: ss) W
  | i0, .sl id :: r, Q => ∀ (n cap : Nat) (A : Option Addr) (l : List (Sh id)), n ≤ cap → l.length = n → (∀ x ∈ l, wfSh id x) → forI (i0 + 1) r fun ss W => Q (.one (.rs i0 (Sh.sz id) 0 n cap A) :: ss) (⟨id, l⟩ :: W)
  | i0, .ar id n :: r, Q => ∀ l : List (Sh id), l.length = n → (∀ x ∈ l, wfSh id x) → forI i0 r fun ss W => Q (.arr id n l :: ss) W
theorem forI_elim {i0 : Nat} {its : List It} {ss : List Seg} {W : List Rw} (h : InstI i0 its ss W) : ∀ {Q : List Seg → List Rw → Prop}, forI i0 its Q → Q ss W := by
  induction h with
  | nil => exact fun h => h
  | i hn _ ih => exact fun h => ih (h _ hn)
  | b _ ih => exact fun h => ih (h _)
  | s hl _ ih => exact fun h => ih (h _ hl)
  | sl h1 hl hw _ ih => exact fun h => ih (h _ _ _ _ h1 hl hw)
  | ar hl hw _ ih => exact fun h => ih (h _ hl hw)
inductive InstA : Nat → List (Bool × List It) → List SV → List Rw → Prop where
  | nil {i0 : Nat} : InstA i0 [] [] []
  | agg {i0 : Nat} {its : List It} {ss : List Seg} {W V : List Rw} {r : List (Bool × List It)} {as : List SV} (h : InstI i0 its ss W) (t : InstA (i0 + W.length) r as V) : InstA i0 ((true, its) :: r) (.v (.agg ss) :: as) (W ++ V)
  | one {i0 : Nat} {its : List It} {x : Sc} {W V : List Rw} {r : List (Bool × List It)} {as : List SV} (h : InstI i0 its [.one x] W) (t : InstA (i0 + W.length) r as V) : InstA i0 ((false, its) :: r) (.v (.c x) :: as) (W ++ V)
def forA : Nat → List (Bool × List It) → (List SV → List Rw → Prop) → Prop
  | _, [], Q => Q [] []
  | i0, (true, its) :: r, Q => forI i0 its fun ss W => forA (i0 + W.length) r fun as V => Q (.v (.agg ss) :: as) (W ++ V)
  | i0, (false, its) :: r, Q => forI i0 its fun ss W => match ss with
    | [.one x] => forA (i0 + W.length) r fun as V => Q (.v (.c x) :: as) (W ++ V)
    | _ => True
theorem forA_elim {i0 : Nat} {sg : List (Bool × List It)} {as : List SV} {W : List Rw} (h : InstA i0 sg as W) : ∀ {Q : List SV → List Rw → Prop}, forA i0 sg Q → Q as W := by
  induction h with
  | nil => exact fun h => h
  | agg hi _ ih => exact fun h => ih (forI_elim hi h)
  | one hi _ ih => exact fun h => ih (forI_elim hi h)
section
variable {H : Type} {enc : TypeId × Value → H} {P : Program} {w : World} {base : Nat} {spare : Nat → Bool} {held : Bool}
/-- cells of an argument: with the rows that came in -/
def QI (w : World) (its : List It) (cs : List Value) : Prop := ∀ i0, ∃ ss W R, InstI i0 its ss W ∧ W.length = R.length ∧ (∀ ρ R0 R1, R0.length = i0 → repG ρ (R0 ++ R ++ R1) ss cs) ∧ (∀ r ∈ R, RowAt w r) ∧ repR W R
theorem repG_app {ρ : List Nat} {R : List Row} {a b : List Seg} {c d : List Value} (h1 : repG ρ R a c) (h2 : repG ρ R b d) : repG ρ R (a ++ b) (c ++ d) :=
  ⟨wfG_app.2 ⟨h1.1, h2.1⟩, by rw [cellsOf_app]; exact h1.2.app h2.2⟩
theorem QI.app {a b : List It} {c d : List Value} (h1 : QI w a c) (h2 : QI w b d) : QI w (a ++ b) (c ++ d) := fun i0 => by
  obtain ⟨ss, W, R, p1, p2, p3, p4, p5⟩ := h1 i0
  obtain ⟨qs, V, S, q1, q2, q3, q4, q5⟩ := h2 (i0 + W.length)
  refine ⟨ss ++ qs, W ++ V, R ++ S, p1.app q1 rfl, by simp [p2, q2], fun ρ R0 R1 h0 => ?_, fun r hr => (List.mem_append.1 hr).elim (p4 r) (q4 r), p5.app q5⟩
  have e1 := p3 ρ R0 (S ++ R1) h0
  have e2 := q3 ρ (R0 ++ R) R1 (by simp [h0, p2])
  rw [show R0 ++ (R ++ S) ++ R1 = R0 ++ R ++ (S ++ R1) by simp [List.append_assoc]]
  rw [show R0 ++ R ++ S ++ R1 = R0 ++ R ++ (S ++ R1) by simp [List.append_assoc]] at e2
  exact repG_app e1 e2
theorem QI.nil : QI w [] [] := fun i0 => ⟨[], [], [], .nil, rfl, fun _ _ _ _ => ⟨trivial, .nil⟩, (fun r hr => by cases hr), .nil⟩
theorem QI.plain {it : It} {x : Sc} {v : Value} (h : ∀ i0, InstI i0 [it] [.one x] []) (hx : bare x = true) (hv : ∀ ρ R, repS ρ R x v) : QI w [it] [v] := fun i0 =>
  ⟨[.one x], [], [], h i0, rfl, fun _ _ _ _ => ⟨trivial, .cons (hv _ _) .nil⟩, (fun r hr => by cases hr), .nil⟩
theorem row_get {R0 R R1 : List Row} {r : Row} {i0 : Nat} (h : R0.length = i0) : (R0 ++ (r :: R) ++ R1)[i0]? = some r := by
  subst h
  simp [List.getElem?_append]
theorem flatI_ok : ∀ {f : Nat} {t : TypeId} {its : List It} {fuel : Nat} {cs : List Value} {x : DataW H × List MemPlace}, flatI P f t = some its → DataW.trod enc P w base spare held fuel t cs = some x → QI w its cs
  | 0, _, _, _, _, _, h, _ => by cases h
  | f + 1, t, its, fuel, cs, x, h, hd => by
    simp only [flatI] at h
    split at h
    · rename_i ht
      cases h
      obtain ⟨b, rfl, _⟩ := DataW.trod_bool ht hd
      exact QI.plain (x := .b b) (fun _ => .b .nil) rfl fun _ _ => rfl
    · rename_i k ht
      cases h
      obtain ⟨n, rfl, _, hw⟩ := DataW.trod_int ht hd
      exact QI.plain (x := .i k n) (fun _ => .i (rng_of hw) .nil) rfl fun _ _ => rfl
    · rename_i ht
      cases h
      obtain ⟨s, rfl, _, hs⟩ := DataW.trod_string ht hd
      exact QI.plain (x := .s s.data.toList) (fun _ => .s (by rw [str_len]; exact hs) .nil) rfl fun _ _ => congrArg Value.string (string_eta s)
    · rename_i e ht
      rw [Option.map_eq_some_iff] at h
      obtain ⟨id, hid, rfl⟩ := h
      have hsz := idK_sz hid
      have hnil : ∀ (A : Option Addr) (cap : Nat), QI w [.sl id] [.slice A 0 cap] := fun A cap i0 =>
        ⟨[.one (.rs i0 (Sh.sz id) 0 0 cap A)], [⟨id, []⟩], [⟨0, 0, []⟩], .sl (Nat.zero_le _) rfl (fun x hx => by cases hx) .nil, rfl, fun _ _ _ _ => ⟨trivial, .cons ⟨rfl, .inl rfl⟩ .nil⟩,
          (fun r hr => by simp at hr; subst hr; intro j v hv; simp at hv), .cons (fun _ _ => .nil) .nil⟩
      rcases Go.Deep.open_slice ht hd with ⟨rfl, _⟩ | ⟨a, len, cap, m, n, D, Pl, rfl, hb, hl, hm, hmm, _, hx⟩
      · exact hnil none 0
      · by_cases hl0 : len = 0
        · subst hl0; exact hnil _ _
        · rw [hsz] at hx
          have hlm : len ≤ m := by rw [hmm]; split <;> omega
          have hpos : 0 < Sh.sz id := by
            have : ∀ id, idOf (ksOf id) 9 = some id → 0 < Sh.sz id := fun id h => by
              obtain ⟨h1, _⟩ := idOf_iff h
              match id, h1 with
              | 0, _ => decide
              | 1, _ => decide
              | 2, _ => decide
              | 3, _ => decide
              | 4, _ => decide
              | 5, _ => decide
              | 6, _ => decide
              | 7, _ => decide
              | 8, _ => decide
            unfold idK at hid
            rw [Option.bind_eq_some_iff] at hid
            obtain ⟨ks, _, h⟩ := hid
            rw [Option.bind_eq_some_iff] at h
            obtain ⟨id', h1, h⟩ := h
            cases hb : Nat.beq (P.cellsOf e) (Sh.sz id') with
            | false => rw [hb] at h; cases h
            | true =>
              rw [hb, cond_true] at h
              cases h
              obtain ⟨h2, h3⟩ := idOf_iff h1
              rw [← h3] at h1
              exact this _ h1
          -- the address is a plain one
          obtain ⟨b, off, spot⟩ := a
          have hspot : spot = none := by
            obtain ⟨cs0, h1, _⟩ := hx 0 (by omega)
            obtain ⟨_, h2, h3⟩ := World.cells?_some h1
            have h4 := h3 0 hpos
            rw [List.getElem?_eq_getElem (by omega)] at h4
            simpa [Addr.add] using World.cell?_spot h4
          subst hspot
          -- the row's cells
          let C : List Value := (List.range (len * Sh.sz id)).map fun j => (w.cell? ⟨b, off + j, none⟩).getD undef
          have hC : C.length = len * Sh.sz id := by simp [C]
          have hch : ∀ i, i < len → ∃ cs', DataW.trod enc P w base spare held n e cs' = some (D i, Pl i) ∧ (C.drop (i * Sh.sz id)).take (Sh.sz id) = cs' ∧ ∀ j, j < Sh.sz id → w.cell? ⟨b, off + i * Sh.sz id + j, none⟩ = cs'[j]? := fun i hi => by
            obtain ⟨cs', h1, h2⟩ := hx i (by omega)
            obtain ⟨_, h3, h4⟩ := World.cells?_some h1
            have h5 : ∀ j, j < Sh.sz id → w.cell? ⟨b, off + i * Sh.sz id + j, none⟩ = cs'[j]? := fun j hj => by
              have := h4 j hj
              rwa [Go.WideShapes.add_plain, Go.WideShapes.add_plain] at this
            have hle : i * Sh.sz id + Sh.sz id ≤ len * Sh.sz id := by
              have := Nat.mul_le_mul_right (Sh.sz id) (show i + 1 ≤ len by omega)
              rwa [Nat.add_mul, Nat.one_mul] at this
            refine ⟨cs', h2, ?_, h5⟩
            apply List.ext_getElem?
            intro j
            by_cases hj : j < Sh.sz id
            · rw [List.getElem?_take_of_lt hj, List.getElem?_drop, ← h5 j hj]
              have hlt : i * Sh.sz id + j < len * Sh.sz id := by omega
              simp only [C, List.getElem?_map, List.getElem?_range hlt, Option.map_some]
              have h6 := h5 j hj
              rw [List.getElem?_eq_getElem (by omega)] at h6
              rw [show off + (i * Sh.sz id + j) = off + i * Sh.sz id + j by omega, h6]
              rfl
            · rw [List.getElem?_eq_none (by simp; omega), List.getElem?_eq_none (by omega)]
          obtain ⟨l, l1, l2, l3⟩ := chunks (id := id) (n := len) (cs := C) hC fun i hi => by
            obtain ⟨cs', h1, h2, _⟩ := hch i hi
            rw [h2]
            exact (idK_ok hid h1).2
          refine fun i0 => ⟨[.one (.rs i0 (Sh.sz id) 0 len cap (some ⟨b, off, none⟩))], [⟨id, l⟩], [⟨b, off, C⟩], .sl hl l1 l2 .nil, rfl, fun _ R0 R1 h0 => ⟨trivial, .cons ⟨rfl, .inr ⟨⟨b, off, C⟩, row_get h0, by simp⟩⟩ .nil⟩, fun r hr => ?_, .cons (fun ρ R' => l3 ρ R') .nil⟩
          simp at hr
          subst hr
          intro j v hv
          have hj : j < len * Sh.sz id := by rw [← hC]; exact (List.getElem?_eq_some_iff.1 hv).1
          have hdm : j / Sh.sz id < len := Nat.div_lt_of_lt_mul (by rw [Nat.mul_comm]; exact hj)
          obtain ⟨cs', h1, h2, h3⟩ := hch (j / Sh.sz id) hdm
          have hmod := Nat.mod_lt j hpos
          have hjj : j / Sh.sz id * Sh.sz id + j % Sh.sz id = j := by rw [Nat.mul_comm]; exact Nat.div_add_mod j _
          have h4 := h3 (j % Sh.sz id) hmod
          rw [← h2, List.getElem?_take_of_lt hmod, List.getElem?_drop, hjj, hv] at h4
          rw [show off + j = off + j / Sh.sz id * Sh.sz id + j % Sh.sz id by omega]
          exact h4
    · rename_i n e ht
      rw [Option.bind_eq_some_iff] at h
      obtain ⟨id, hid, h⟩ := h
      cases hb : Nat.beq (P.cellsOf t) (n * Sh.sz id) with
      | false => rw [hb] at h; cases h
      | true =>
        rw [hb, cond_true] at h
        cases h
        have hc := Nat.eq_of_beq_eq_true hb
        have hsz := idK_sz hid
        obtain ⟨xs, m, _, _, hlen, hxl, hx⟩ := DataW.trod_array ht hd
        obtain ⟨l, l1, l2, l3⟩ := chunks (id := id) (n := n) (cs := cs) (by omega) fun i hi => by
          have := hx i hi
          rw [List.getElem?_eq_getElem (by omega), hsz] at this
          exact (idK_ok hid this).2
        exact fun i0 => ⟨[.arr id n l], [], [], .ar l1 l2 .nil, rfl, fun ρ R0 R1 _ => ⟨⟨l1, trivial⟩, by simpa [cellsOf] using l3 ρ _⟩, (fun r hr => by cases hr), .nil⟩
    · rename_i fs ht
      rw [Option.bind_eq_some_iff] at h
      obtain ⟨⟨js, o⟩, h1, h2⟩ := h
      cases hb : Nat.beq o (P.cellsOf t) with
      | false => rw [hb] at h2; cases h2
      | true =>
        rw [hb, cond_true] at h2
        cases h2
        have ho := Nat.eq_of_beq_eq_true hb
        obtain ⟨xs, n, rfl, _, hl, hlen, hx⟩ := DataW.trod_struct ht hd
        obtain ⟨_, h3⟩ := flatFs_ok (cs := cs) QI.nil (fun _ _ _ _ => QI.app) h1 (by omega) (fun fd hfd ks hk => by
          obtain ⟨i, hi, he⟩ := List.getElem_of_mem hfd
          have hi' : i < fs.size := by simpa using hi
          have e1 := hx i fd (by rw [Array.getElem?_eq_getElem hi']; exact congrArg some (by simpa using he))
          rw [List.getElem?_eq_getElem (by rw [hlen]; exact hi')] at e1
          exact flatI_ok hk e1)
        rw [show o - 0 = cs.length by omega] at h3
        simpa using h3
    · cases h
end
end Go.Y

set_option linter.unusedSimpArgs false
set_option linter.unusedVariables false
namespace Go.Y
open Go.Z (Row Blk Kd U32 RowAt)
open Go.ChangeShapes Go.WideShapes Go.RowKit
def isAg (P : Program) (t : TypeId) : Bool := match P.underlying t with
  | some (.struct _) => true
  | some (.array _ _) => true
  | _ => false
def sigs (P : Program) : List TypeId → Option (List (Bool × List It))
  | [] => some []
  | t :: r => match flatI P 20 t, sigs P r with
    | some its, some q => some ((isAg P t, its) :: q)
    | _, _ => none
section
variable {H : Type} {enc : TypeId × Value → H} {P : Program} {w : World} {base : Nat} {spare : Nat → Bool} {held : Bool}
theorem arg_ok {t : TypeId} {its : List It} {v : Value} {d : DataW H} {ps : List MemPlace} {w' : World} {b0 : Nat} (hf : flatI P 20 t = some its) (hd : DataW.Trod enc P w base spare held t v d ps) (hok : Value.okWide P w' .any b0 t v) (i0 : Nat) :
    ∃ x W R, (∀ V r as, InstA (i0 + W.length) r as V → InstA i0 ((isAg P t, its) :: r) (.v x :: as) (W ++ V)) ∧ W.length = R.length ∧ (∀ ρ R0 R1, R0.length = i0 → rep1 ρ (R0 ++ R ++ R1) x v) ∧ (∀ r ∈ R, RowAt w r) ∧ repR W R := by
  obtain ⟨fuel, hd⟩ := hd
  obtain ⟨ss, W, R, p1, p2, p3, p4, p5⟩ := flatI_ok hf hd i0
  have hone : isAg P t = false → v.cells.toList = [v] → (∀ ss W, InstI i0 its ss W → ∃ x, ss = [.one x]) → ∃ x W R, (∀ V r as, InstA (i0 + W.length) r as V → InstA i0 ((isAg P t, its) :: r) (.v x :: as) (W ++ V)) ∧ W.length = R.length ∧ (∀ ρ R0 R1, R0.length = i0 → rep1 ρ (R0 ++ R ++ R1) x v) ∧ (∀ r ∈ R, RowAt w r) ∧ repR W R := fun ha hc hs => by
    obtain ⟨x, rfl⟩ := hs ss W p1
    refine ⟨.c x, W, R, fun V r as h => ?_, p2, fun ρ R0 R1 h0 => ?_, p4, p5⟩
    · rw [ha]; exact .one p1 h
    · have := p3 ρ R0 R1 h0
      rw [hc] at this
      obtain ⟨y, ys, e, h1, h2⟩ := this.2.inv
      cases e
      exact h1
  simp only [flatI] at hf
  split at hf
  · rename_i ht
    cases hf
    obtain ⟨b, rfl⟩ := okWide_bool ht hok
    exact hone (by simp [isAg, ht]) rfl fun ss W h => by cases h with | b t => cases t; exact ⟨_, rfl⟩
  · rename_i k ht
    cases hf
    obtain ⟨n, rfl⟩ := okWide_int ht hok
    exact hone (by simp [isAg, ht]) rfl fun ss W h => by cases h with | i _ t => cases t; exact ⟨_, rfl⟩
  · rename_i ht
    cases hf
    obtain ⟨s, rfl⟩ := okWide_string ht hok
    exact hone (by simp [isAg, ht]) rfl fun ss W h => by cases h with | s _ t => cases t; exact ⟨_, rfl⟩
  · rename_i e ht
    rw [Option.map_eq_some_iff] at hf
    obtain ⟨id, _, rfl⟩ := hf
    obtain ⟨a, len, cap, rfl⟩ := okWide_slice ht hok
    exact hone (by simp [isAg, ht]) rfl fun ss W h => by cases h with | sl _ _ _ t => cases t; exact ⟨_, rfl⟩
  · rename_i n e ht
    simp only [Value.okWide, ht] at hok
    obtain ⟨cs, rfl, _⟩ := hok
    refine ⟨.agg ss, W, R, fun V r as h => ?_, p2, fun ρ R0 R1 h0 => ⟨cs.toList, by simp, p3 ρ R0 R1 h0⟩, p4, p5⟩
    rw [show isAg P t = true by simp [isAg, ht]]
    exact .agg p1 h
  · rename_i fs ht
    simp only [Value.okWide, ht] at hok
    obtain ⟨cs, rfl, _⟩ := hok
    refine ⟨.agg ss, W, R, fun V r as h => ?_, p2, fun ρ R0 R1 h0 => ⟨cs.toList, by simp, p3 ρ R0 R1 h0⟩, p4, p5⟩
    rw [show isAg P t = true by simp [isAg, ht]]
    exact .agg p1 h
  · cases hf
theorem args_ok {w' : World} {b0 : Nat} : ∀ {ts : List TypeId} {sg : List (Bool × List It)} {vs : List Value} {ds : List (DataW H)} {ps : List MemPlace}, sigs P ts = some sg → DataW.TrodAll enc P w base spare held ts vs ds ps →
    (∀ (j : Nat) t v, ts[j]? = some t → vs[j]? = some v → Value.okWide P w' .any b0 t v) → ∀ i0, ∃ as W R, InstA i0 sg as W ∧ W.length = R.length ∧ (∀ ρ R0 R1, R0.length = i0 → A2 (repV ρ (R0 ++ R ++ R1)) as vs) ∧ (∀ r ∈ R, RowAt w r) ∧ repR W R
  | [], sg, vs, ds, ps, hs, hA, _, i0 => by
    simp only [sigs, Option.some.injEq] at hs
    subst hs
    obtain ⟨rfl, rfl, rfl⟩ := trodAll_nil hA
    exact ⟨[], [], [], .nil, rfl, fun _ _ _ _ => .nil, (fun r hr => by cases hr), .nil⟩
  | t :: ts, sg, vs, ds, ps, hs, hA, hok, i0 => by
    simp only [sigs] at hs
    split at hs
    · rename_i its q h1 h2
      cases hs
      obtain ⟨v, vs', d, ds', p, p', rfl, rfl, rfl, h3, h4⟩ := trodAll_cons hA
      obtain ⟨x, W, R, a1, a2, a3, a4, a5⟩ := arg_ok h1 h3 (hok 0 t v rfl rfl) i0
      obtain ⟨as, V, S, b1, b2, b3, b4, b5⟩ := args_ok h2 h4 (fun j t v ht hv => hok (j + 1) t v (by simpa using ht) (by simpa using hv)) (i0 + W.length)
      refine ⟨.v x :: as, W ++ V, R ++ S, a1 V _ as b1, by simp [a2, b2], fun ρ R0 R1 h0 => ?_, fun r hr => (List.mem_append.1 hr).elim (a4 r) (b4 r), a5.app b5⟩
      have e1 := a3 ρ R0 (S ++ R1) h0
      have e2 := b3 ρ (R0 ++ R) R1 (by simp [h0, a2])
      rw [show R0 ++ (R ++ S) ++ R1 = R0 ++ R ++ (S ++ R1) by simp [List.append_assoc]]
      rw [show R0 ++ R ++ S ++ R1 = R0 ++ R ++ (S ++ R1) by simp [List.append_assoc]] at e2
      exact .cons e1 e2
    · cases hs
theorem Keep.below {W W' : World} (h : Z.Keep [] W W') : Below W.heap.size W W' := ⟨h.os, h.tape, h.output, h.size, fun k hk => h.block k hk (by simp)⟩
/-- a law's call -/
theorem law_calls {f : FuncId} {con : Con} {ts : List TypeId} {sg : List (Bool × List It)} (ok : ConOK P f con) (hs : sigs P ts = some sg) (hcon : forA 0 sg fun as W => (con.run as [] W).all fun y => y.1 = .v (.c (.b true)))
    {W0 w' : World} {b0 : Nat} {args : Array Value} {ds : List (DataW H)} {ps : List MemPlace} (hA : DataW.TrodAll enc P W0 base spare held ts args.toList ds ps)
    (hok : ∀ (j : Nat) t v, ts[j]? = some t → args.toList[j]? = some v → Value.okWide P w' .any b0 t v) : Calls P f args W0 fun e W' => e = .returned (.bool true) ∧ Below W0.heap.size W0 W' := by
  obtain ⟨as, W, R, i1, i2, i3, i4, i5⟩ := args_ok hs hA hok 0
  have hc := forA_elim i1 hcon
  have h3 : A2 (repV [] R) as args.toList := by simpa using i3 [] [] [] rfl
  have := ok as [] W _ hc (fun _ B hB => by cases hB) [] R args.toList [] h3 ⟨rfl, .nil⟩ i5 W0 ⟨(fun x hx => by cases hx), (by simp), fun r hr => ⟨i4 r hr, fun x hx => by cases hx⟩⟩
  rw [show args.toList.toArray = args by simp] at this
  refine this.mono fun e W' ⟨v, H', he, ⟨sv, H1, ρ', hk, _, hv, _⟩, hg⟩ => ?_
  simp only at hk
  subst hk
  have hv : v = .bool true := hv
  subst hv
  exact ⟨he, Keep.below hg.keep⟩
theorem trodAll_below (hl : laidOutB P = true) {W W' : World} (hb : Below W.heap.size W W') {sp : Nat → Bool} : ∀ {ts : List TypeId} {vs : List Value} {ds : List (DataW H)} {ps : List MemPlace}, (ts.all fun t => P.readableRec t && decide (t < P.types.size)) = true →
    DataW.TrodAll enc P W 0 (fun _ => true) true ts vs ds ps → (∀ p ∈ ps, p.block < W.heap.size) → (∀ p ∈ ps, sp p.block = true) → DataW.TrodAll enc P W' 0 sp true ts vs ds ps
  | [], _, _, _, _, h, _, _ => by
    obtain ⟨rfl, rfl, rfl⟩ := trodAll_nil h
    exact trodAll_mk0
  | t :: ts, _, _, _, hr, h, hlt, hsp => by
    obtain ⟨v, vs', d, ds', p, p', rfl, rfl, rfl, h3, h4⟩ := trodAll_cons h
    simp only [List.all_cons, Bool.and_eq_true, decide_eq_true_eq] at hr
    exact trodAll_cons_mk (Go.WideElems.Trod_stays hl hr.1.1 hr.1.2 h3 (fun x hx => hb.same (hlt x (List.mem_append_left _ hx))) (fun x hx => hsp x (List.mem_append_left _ hx)))
      (trodAll_below hl hb (by simpa using hr.2) h4 (fun x hx => hlt x (List.mem_append_right _ hx)) (fun x hx => hsp x (List.mem_append_right _ hx)))
theorem shutB {t : TypeId} (ht : P.underlying t = some .bool) (b : Bool) : DataW.Trod enc P w base spare held t (.bool b) (.lit (.bool b)) [] := ⟨1, by simp [DataW.trod, Value.cells, ht]⟩
theorem okB {t : TypeId} (ht : P.underlying t = some .bool) (b : Bool) : Value.okWide P w .any base t (.bool b) := by
  simp [Value.okWide, Cell.okWide, Cell.ok, ht]
/-- what a law leaves behind -/
theorem law_post {fn : Func} {s : ChangeSpec} {W W' : World} {args : Array Value} {ds gs : List (DataW H)} {before : List MemPlace} {tb : TypeId} (hl : laidOutB P = true) (hv : s.vars = []) (hr : (fn.params.toList.all fun t => P.readableRec t && decide (t < P.types.size)) = true)
    (hres : fn.resultTypes = #[tb]) (htb : P.underlying tb = some .bool) (hspec : ∀ d : List (DataW H), d.length = fn.params.toList.length → s.fn H d = { results := [.lit (.bool true)], args := d })
    (hW : DataW.Whole enc P fn.params.toList s.vars false W args.toList ds gs before) (hb : Below W.heap.size W W') : s.post enc P fn false true false false W args (.bool true) W' := by
  have hW0 := hW
  have hlt := fun p hp => hW.lt p hp
  obtain ⟨p, q, hA, hV, rfl, hz, hn⟩ := hW
  rw [hv] at hV
  obtain ⟨rfl, rfl⟩ : gs = [] ∧ q = [] := by cases gs <;> simp_all [DataW.TrodVars]
  have hlen : ∀ {ts : List TypeId} {vs : List Value} {ds : List (DataW H)} {ps : List MemPlace}, DataW.TrodAll enc P W 0 (fun _ => true) true ts vs ds ps → ds.length = ts.length := by
    intro ts
    induction ts with
    | nil => intro vs ds ps h; obtain ⟨_, rfl, _⟩ := trodAll_nil h; rfl
    | cons t ts ih =>
      intro vs ds ps h
      obtain ⟨v, vs', d, ds', p, p', rfl, rfl, rfl, _, h4⟩ := trodAll_cons h
      simp [ih h4]
  have hs := hspec (ds ++ []) (by rw [List.append_nil]; exact hlen hA)
  simp only [List.append_nil] at hlt hs hW0 ⊢
  refine ⟨ds, [], p, [], p, [], hW0, ?_, ?_, ?_, World.keptBut_mono (fun x hx => ⟨hx, .inr (.inl hx)⟩) (hb.frame (· ∈ p)), fun h => by cases h⟩
  · simp only [List.append_nil, hs]
    rw [hres]
    exact trodAll_cons_mk (shutB htb true) trodAll_mk0
  · simp only [List.append_nil, hs]
    exact trodAll_below hl hb hr hA hlt fun x hx => by simpa using hlt x hx
  · simp only [List.append_nil, hs, hv]
    rfl
end
end Go.Y
namespace Go.Y
theorem wf0 {x : Int} (h : wfSh 0 x) : Z.U32 x := h (.i .u32 x) List.mem_cons_self
theorem wf5 {x : Mic} (h : wfSh 5 x) : Z.U32 x.i := h (.i .u32 x.i) (by simp [Sh.f])
theorem wfRegs {r : List Int} (hl : r.length = 32) (h : ∀ x ∈ r, wfSh 0 x) : Z.Regs r := ⟨hl, fun x hx => wf0 (h x hx)⟩
theorem wfSub {α : Type} {p : α → Prop} {l : List α} (h : ∀ x ∈ l, p x) (o n : Nat) : ∀ x ∈ (l.drop o).take n, p x := fun x hx => h x (List.mem_of_mem_drop (List.mem_of_mem_take hx))
end Go.Y
