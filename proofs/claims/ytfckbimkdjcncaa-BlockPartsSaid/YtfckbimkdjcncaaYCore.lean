/- A reckoner over a function's code: values with known forms, blocks by number, a tree of ways. Definitions alone. Generic in the program. -/
import Derived.Test.YtfckbimkdjcncaaZNew
set_option linter.unusedSimpArgs false
set_option linter.unusedVariables false
namespace Go.Y
open Go.Z

/-! ### Forms of elements of rows -/
structure Mic where
  k : Int
  d : Int
  a : Int
  b : Int
  i : Int
  c : Int
  deriving DecidableEq, Inhabited
structure Ent where
  hi : Int
  lo : Int
  deriving DecidableEq, Inhabited
structure Evt where
  at_ : Int
  kind : Int
  v : Int
  deriving DecidableEq, Inhabited
/-- a row of the table of instructions -/
structure Tbl where
  nm : List UInt8
  fm : Int
  mj : Int
  mn : Int
  deriving DecidableEq, Inhabited
/-- one cell's value; blocks go by their number -/
inductive Sc where
  | kb (x : Bool)
  | b (x : Bool)
  | i (k : IntKind) (n : Int)
  | s (l : List UInt8)
  | np
  | p (blk off : Nat)
  | pe (blk base sz m c : Nat)
  | ns
  | sl (blk base sz eo len cap : Nat)
  | rp (r sz m c : Nat)
  | rs (r sz eo len cap : Nat) (A : Option Addr)
  | o (v : Value)
abbrev Sh : Nat → Type
  | 0 => Int
  | 1 => Int
  | 2 => Int
  | 3 => Bool
  | 4 => List UInt8
  | 5 => Mic
  | 6 => Ent
  | 7 => Evt
  | 8 => Tbl
  | _ => Unit
def Sh.sz : Nat → Nat
  | 0 => 1
  | 1 => 1
  | 2 => 1
  | 3 => 1
  | 4 => 1
  | 5 => 6
  | 6 => 2
  | 7 => 3
  | 8 => 4
  | _ => 0
def Sh.f : (id : Nat) → Sh id → List Sc
  | 0, x => [.i .u32 x]
  | 1, x => [.i .u8 x]
  | 2, x => [.i .i64 x]
  | 3, x => [.b x]
  | 4, x => [.s x]
  | 5, x => [.i .i64 x.k, .i .i64 x.d, .i .i64 x.a, .i .i64 x.b, .i .u32 x.i, .i .i64 x.c]
  | 6, x => [.i .u32 x.hi, .i .u32 x.lo]
  | 7, x => [.i .i64 x.at_, .i .i64 x.kind, .i .u32 x.v]
  | 8, x => [.s x.nm, .i .i64 x.fm, .i .u32 x.mj, .i .u32 x.mn]
  | _ + 9, _ => []
def Sh.df : (id : Nat) → Sh id
  | 0 => (0 : Int)
  | 1 => (0 : Int)
  | 2 => (0 : Int)
  | 3 => false
  | 4 => []
  | 5 => ⟨0, 0, 0, 0, 0, 0⟩
  | 6 => ⟨0, 0⟩
  | 7 => ⟨0, 0, 0⟩
  | 8 => ⟨[], 0, 0, 0⟩
  | _ + 9 => ()
/-- an element out of cells of these kinds -/
def Sh.un : (id : Nat) → List Sc → Option (Sh id)
  | 0, [.i .u32 x] => some x
  | 1, [.i .u8 x] => some x
  | 2, [.i .i64 x] => some x
  | 3, [.b x] => some x
  | 3, [.kb x] => some x
  | 4, [.s x] => some x
  | 5, [.i .i64 k, .i .i64 d, .i .i64 a, .i .i64 b, .i .u32 i, .i .i64 c] => some ⟨k, d, a, b, i, c⟩
  | 6, [.i .u32 a, .i .u32 b] => some ⟨a, b⟩
  | 7, [.i .i64 a, .i .i64 b, .i .u32 c] => some ⟨a, b, c⟩
  | 8, [.s a, .i .i64 b, .i .u32 c, .i .u32 d] => some ⟨a, b, c, d⟩
  | _, _ => none
inductive Seg where
  | one (x : Sc)
  | arr (id n : Nat) (l : List (Sh id))
inductive V1 where
  | c (x : Sc)
  | agg (ss : List Seg)
inductive SV where
  | v (x : V1)
  | tup (xs : List V1)
  | und
structure Bk where
  t : TypeId
  ss : List Seg
  wr : Bool := true
structure Rw where
  id : Nat
  l : List (Sh id)
abbrev Env := List (Nat × SV)
def lk : Env → Nat → Option SV
  | [], _ => none
  | (k, v) :: r, t => bif Nat.beq k t then some v else lk r t
def nth {α : Type} : List α → Nat → Option α
  | [], _ => none
  | x :: _, 0 => some x
  | _ :: r, n + 1 => nth r n
def setAt {α : Type} : List α → Nat → α → List α
  | [], _, _ => []
  | _ :: r, 0, y => y :: r
  | x :: r, n + 1, y => x :: setAt r n y

/-! ### Trees of ways -/
inductive Tr (α : Type) : Type 1 where
  | ret (x : α)
  | ite (b : Bool) (t f : Tr α)
  | ass (p : Prop) (t : Tr α)
  | both (t f : Tr α)
  | hyp (p : Prop) (t : Tr α)
  | any (β : Type) (f : β → Tr α)
  | stuck (n : Nat)
def Tr.bind {α β : Type} : Tr α → (α → Tr β) → Tr β
  | .ret x, g => g x
  | .ite b t f, g => .ite b (t.bind g) (f.bind g)
  | .ass p t, g => .ass p (t.bind g)
  | .both t f, g => .both (t.bind g) (f.bind g)
  | .hyp p t, g => .hyp p (t.bind g)
  | .any γ h, g => .any γ (fun x => (h x).bind g)
  | .stuck n, _ => .stuck n
def Tr.all {α : Type} (K : α → Prop) : Tr α → Prop
  | .ret x => K x
  | .ite b t f => (b = true → t.all K) ∧ (b = false → f.all K)
  | .ass p t => p ∧ (p → t.all K)
  | .both t f => t.all K ∧ f.all K
  | .hyp p t => p → t.all K
  | .any _ h => ∀ x, (h x).all K
  | .stuck _ => False
theorem Tr.all_bind {α β : Type} {K : β → Prop} {g : α → Tr β} : ∀ {t : Tr α}, (t.bind g).all K → t.all (fun x => (g x).all K)
  | .ret _, h => h
  | .ite _ _ _, h => ⟨fun hb => all_bind (h.1 hb), fun hb => all_bind (h.2 hb)⟩
  | .ass _ _, h => ⟨h.1, fun hp => all_bind (h.2 hp)⟩
  | .both _ _, h => ⟨all_bind h.1, all_bind h.2⟩
  | .hyp _ _, h => fun hp => all_bind (h hp)
  | .any _ _, h => fun x => all_bind (h x)
  | .stuck _, h => h
theorem Tr.all_mono {α : Type} {K K' : α → Prop} (hk : ∀ x, K x → K' x) : ∀ {t : Tr α}, t.all K → t.all K'
  | .ret _, h => hk _ h
  | .ite _ _ _, h => ⟨fun hb => all_mono hk (h.1 hb), fun hb => all_mono hk (h.2 hb)⟩
  | .ass _ _, h => ⟨h.1, fun hp => all_mono hk (h.2 hp)⟩
  | .both _ _, h => ⟨all_mono hk h.1, all_mono hk h.2⟩
  | .hyp _ _, h => fun hp => all_mono hk (h hp)
  | .any _ _, h => fun x => all_mono hk (h x)
  | .stuck _, h => h
def ofO {α : Type} (n : Nat) : Option α → Tr α
  | some x => .ret x
  | none => .stuck n

/-! ### Cells of blocks -/
def segSz : Seg → Nat
  | .one _ => 1
  | .arr id n _ => n * Sh.sz id
def cellsOf : List Seg → List Sc
  | [] => []
  | .one x :: r => x :: cellsOf r
  | .arr id _ l :: r => l.flatMap (Sh.f id) ++ cellsOf r
/-- the part of one element -/
def elAt (id : Nat) (l : List (Sh id)) (m : Nat) : List Sc := Sh.f id (l.getD m (Sh.df id))
/-- a cell at a known place -/
def getC : List Seg → Nat → Option Sc
  | [], _ => none
  | .one x :: r, n => bif Nat.beq n 0 then some x else getC r (n - 1)
  | .arr id k l :: r, n => bif Nat.blt n (k * Sh.sz id) then nth (elAt id l (n / Sh.sz id)) (n % Sh.sz id) else getC r (n - k * Sh.sz id)
def setC : List Seg → Nat → Sc → Option (List Seg)
  | [], _, _ => none
  | .one x :: r, n, y => bif Nat.beq n 0 then some (.one y :: r) else (setC r (n - 1) y).map (.one x :: ·)
  | .arr id k l :: r, n, y => bif Nat.blt n (k * Sh.sz id) then
      (Sh.un id (setAt (elAt id l (n / Sh.sz id)) (n % Sh.sz id) y)).map (fun z => .arr id k (l.set (n / Sh.sz id) z) :: r)
    else (setC r (n - k * Sh.sz id) y).map (.arr id k l :: ·)
/-- the row that begins at a known place -/
def getR : List Seg → Nat → Option Seg
  | [], _ => none
  | s :: r, n => bif Nat.beq n 0 then some s else bif Nat.ble (segSz s) n then getR r (n - segSz s) else none
def setR : List Seg → Nat → Seg → Option (List Seg)
  | [], _, _ => none
  | s :: r, n, y => bif Nat.beq n 0 then some (y :: r) else bif Nat.ble (segSz s) n then (setR r (n - segSz s) y).map (s :: ·) else none
/-- so many cells from the begin on -/
def takeS : List Seg → Nat → Option (List Seg)
  | ss, n => bif Nat.beq n 0 then some [] else match ss with
    | [] => none
    | s :: r => bif Nat.ble (segSz s) n then (takeS r (n - segSz s)).map (s :: ·) else none
def dropS : List Seg → Nat → Option (List Seg)
  | ss, n => bif Nat.beq n 0 then some ss else match ss with
    | [] => none
    | s :: r => bif Nat.ble (segSz s) n then dropS r (n - segSz s) else none
/-- so many cells from a place on: whole parts, or within one element -/
def getN (ss : List Seg) (o n : Nat) : Option (List Seg) := (dropS ss o).bind fun r => takeS r n
/-- laid over what is there, part by part -/
def laySeg : Seg → Seg → Option Seg
  | .one _, .one y => some (.one y)
  | .arr id n _, .arr id' n' l' => bif Nat.beq id id' && Nat.beq n n' then some (.arr id' n' l') else none
  | _, _ => none
def layS : List Seg → List Seg → Option (List Seg)
  | ss, [] => some ss
  | s :: r, y :: ys => match laySeg s y, layS r ys with
    | some z, some zs => some (z :: zs)
    | _, _ => none
  | [], _ :: _ => none
def setN : List Seg → Nat → List Seg → Option (List Seg)
  | ss, o, ys => bif Nat.beq o 0 then layS ss ys else match ss with
    | [] => none
    | s :: r => bif Nat.ble (segSz s) o then (setN r (o - segSz s) ys).map (s :: ·) else none
def ones : List Seg → Option (List Sc)
  | [] => some []
  | .one x :: r => (ones r).map (x :: ·)
  | .arr .. :: _ => none
def scOf : V1 → Option (List Sc)
  | .c x => some [x]
  | .agg ss => ones ss
def segsOf : V1 → List Seg
  | .c x => [.one x]
  | .agg ss => ss
def setL (l : List Sc) (c : Nat) : List Sc → List Sc
  | [] => l
  | x :: r => setL (setAt l c x) (c + 1) r

/-! ### What is known of the program -/
structure TyI where
  d : TypeDesc
  ag : Bool
  sz : Nat
  z : Option V1
  /-- its number as a form of elements -/
  sh : Option Nat
inductive Tm where
  | leaf
  | node (l : Tm) (k : Nat) (v : TyI) (r : Tm)
def Tm.get : Tm → Nat → Option TyI
  | .leaf, _ => none
  | .node l k v r, t => bif Nat.beq t k then some v else bif Nat.blt t k then l.get t else r.get t
structure Con where
  ro : Bool
  run : List SV → List Bk → List Rw → Tr (SV × List Bk)
inductive X where
  | nor
  | ret
  | ex (id : Nat)
structure Ctx where
  ty : Tm
  con : Nat → Option Con
  eqs : Nat → Option (List Kd)
  lp : Nat → Option (Env → List Bk → List Rw → Tr (X × Env × List Bk))

/-! ### Operations that hand back a value -/
def cv : Value → Option SV
  | .bool x => some (.v (.c (.kb x)))
  | .int k n => some (.v (.c (.i k n)))
  | .string s => some (.v (.c (.s s.data.toList)))
  | .pointer none => some (.v (.c .np))
  | .slice none n m => bif Nat.beq n 0 && Nat.beq m 0 then some (.v (.c .ns)) else none
  | .nilIface => some (.v (.c (.o .nilIface)))
  | .nilFunc => some (.v (.c (.o .nilFunc)))
  | _ => none
def ev (e : Env) : Operand → Option SV
  | .tmp t => lk e t
  | .const v => cv v
  | _ => none
def ev1 (e : Env) (x : Operand) : Option V1 := match ev e x with
  | some (.v y) => some y
  | _ => none
def evS (e : Env) (x : Operand) : Option Sc := match ev e x with
  | some (.v (.c y)) => some y
  | _ => none
def evs (e : Env) : List Operand → Option (List SV)
  | [] => some []
  | x :: r => match ev e x, evs e r with
    | some v, some vs => some (v :: vs)
    | _, _ => none
def bo : Sc → Option Bool
  | .kb x => some x
  | .b x => some x
  | _ => none
def kc : IntKind → Nat
  | .i8 => 0 | .i16 => 1 | .i32 => 2 | .i64 => 3 | .u8 => 4 | .u16 => 5 | .u32 => 6 | .u64 => 7
def rI (k : IntKind) (n : Int) : Tr SV := .ret (.v (.c (.i k n)))
def rB (x : Bool) : Tr SV := .ret (.v (.c (.b x)))
def rK (x : Bool) : Tr SV := .ret (.v (.c (.kb x)))
def binI (op : BinOp) (k : IntKind) (m n : Int) : Tr SV := match op with
  | .add => rI k (k.wrap (m + n))
  | .sub => rI k (k.wrap (m - n))
  | .mul => rI k (k.wrap (m * n))
  | .quo => .ass (n ≠ 0) (rI k (k.wrap (m.tdiv n)))
  | .rem => .ass (n ≠ 0) (rI k (m.tmod n))
  | .and => rI k (bits .and k m n)
  | .or => rI k (bits .or k m n)
  | .xor => rI k (bits .xor k m n)
  | .andNot => rI k (bits .andNot k m n)
  | .eql => rB (decide (m = n))
  | .neq => rB (!decide (m = n))
  | .lss => rB (decide (m < n))
  | .leq => rB (decide (m ≤ n))
  | .gtr => rB (decide (n < m))
  | .geq => rB (decide (n ≤ m))
  | _ => .stuck 101
def shf (op : BinOp) (k : IntKind) (m n : Int) : Tr SV := match op with
  | .shl => .ass (0 ≤ n) (rI k (k.wrap (m * 2 ^ min n.toNat k.bits)))
  | .shr => .ass (0 ≤ n) (rI k (m.fdiv (2 ^ min n.toNat k.bits)))
  | _ => .stuck 102
def isShift : BinOp → Bool
  | .shl => true
  | .shr => true
  | _ => false
def binS (op : BinOp) (l m : List UInt8) : Tr SV := match op with
  | .add => .ass (l.length + m.length ≤ 9223372036854775807) (.ret (.v (.c (.s (l ++ m)))))
  | .eql => rB (decide (l = m))
  | .neq => rB (!decide (l = m))
  | _ => .stuck 103
/-- equal, cell by cell -/
def eqSc : Sc → Sc → Option Bool
  | .i k m, .i k' n => bif Nat.beq (kc k) (kc k') then some (decide (m = n)) else none
  | .s l, .s m => some (decide (l = m))
  | x, y => match bo x, bo y with
    | some u, some v => some (u == v)
    | _, _ => none
def eqL {α : Type} [DecidableEq α] (l m : List α) : Bool := decide (l = m)
instance decSh (id : Nat) : DecidableEq (Sh id) := match id with
  | 0 => inferInstanceAs (DecidableEq Int)
  | 1 => inferInstanceAs (DecidableEq Int)
  | 2 => inferInstanceAs (DecidableEq Int)
  | 3 => inferInstanceAs (DecidableEq Bool)
  | 4 => inferInstanceAs (DecidableEq (List UInt8))
  | 5 => inferInstanceAs (DecidableEq Mic)
  | 6 => inferInstanceAs (DecidableEq Ent)
  | 7 => inferInstanceAs (DecidableEq Evt)
  | 8 => inferInstanceAs (DecidableEq Tbl)
  | _ + 9 => inferInstanceAs (DecidableEq Unit)
def castSh {id id' : Nat} (h : id = id') (l : List (Sh id)) : List (Sh id') := h ▸ l
def eqSeg : Seg → Seg → Option Bool
  | .one x, .one y => eqSc x y
  | .arr id n l, .arr id' n' l' => if h : id = id' then (bif Nat.blt id 8 && Nat.beq n n' then some (eqL (castSh h l) l') else none) else none
  | _, _ => none
def eqSegs : List Seg → List Seg → Option Bool
  | [], [] => some true
  | x :: r, y :: q => match eqSeg x y, eqSegs r q with
    | some a, some b => match r with
      | [] => some a
      | _ => some (a && b)
    | _, _ => none
  | _, _ => none
def ksOf : Nat → List Kd
  | 0 => [.i .u32]
  | 1 => [.i .u8]
  | 2 => [.i .i64]
  | 3 => [.b]
  | 4 => [.s]
  | 5 => [.i .i64, .i .i64, .i .i64, .i .i64, .i .u32, .i .i64]
  | 6 => [.i .u32, .i .u32]
  | 7 => [.i .i64, .i .i64, .i .u32]
  | 8 => [.s, .i .i64, .i .u32, .i .u32]
  | _ => []
def eqK : Kd → Kd → Bool
  | .i k, .i k' => Nat.beq (kc k) (kc k')
  | .b, .b => true
  | .s, .s => true
  | _, _ => false
def preK : List Kd → List Kd → Option (List Kd)
  | [], ks => some ks
  | x :: r, y :: q => bif eqK x y then preK r q else none
  | _ :: _, [] => none
def strip (k0 : List Kd) : Nat → List Kd → Option (List Kd)
  | 0, ks => some ks
  | n + 1, ks => (preK k0 ks).bind (strip k0 n)
def kdS : Sc → Option Kd
  | .i k _ => some (.i k)
  | .b _ => some .b
  | .kb _ => some .b
  | .s _ => some .s
  | _ => none
def fits : List Kd → List Seg → Bool
  | [], [] => true
  | _ :: _, [] => false
  | [], .one _ :: _ => false
  | k :: r, .one x :: q => match kdS x with
    | some k' => eqK k k' && fits r q
    | none => false
  | ks, .arr id n _ :: q => match strip (ksOf id) n ks with
    | some r => fits r q
    | none => false

/-! ### One operation -/
def mrgV (x : Bool) : V1 → V1 → Option V1
  | .c (.i k m), .c (.i k' n) => bif Nat.beq (kc k) (kc k') then some (.c (.i k (bif x then m else n))) else none
  | .c (.s l), .c (.s m) => some (.c (.s (bif x then l else m)))
  | .c u, .c v => match bo u, bo v with
    | some a, some b => some (.c (.b (bif x then a else b)))
    | _, _ => none
  | _, _ => none
def eqO (cx : Ctx) (t : Nat) (ss qs : List Seg) : Option Bool := (cx.eqs t).bind fun ks => bif fits ks ss && fits ks qs then eqSegs ss qs else none
def ptrEq : Sc → Sc → Option Bool
  | .np, .np => some true
  | .np, .p .. => some false
  | .p .., .np => some false
  | .np, .pe .. => some false
  | .pe .., .np => some false
  | _, _ => none
def eq1 (cx : Ctx) (t : Nat) (x y : Sc) : Option Sc := match cx.ty.get t with
  | some ti => match ti.d with
    | .bool => (match bo x, bo y with
      | some a, some b => some (.b (a == b))
      | _, _ => none)
    | .pointer _ => (ptrEq x y).map .kb
    | _ => none
  | none => none
def notS : Sc → Sc
  | .kb x => .kb (!x)
  | .b x => .b (!x)
  | x => x
def rd1 (x : Sc) : SV := .v (.c x)
def binV (cx : Ctx) (op : BinOp) (t : Nat) : V1 → V1 → Tr SV
  | .c (.i k m), .c (.i k' n) => bif isShift op then shf op k m n else bif Nat.beq (kc k) (kc k') then binI op k m n else .stuck 104
  | .c (.s l), .c (.s m) => binS op l m
  | .agg ss, .agg qs => match op with
    | .eql => (ofO 105 (eqO cx t ss qs)).bind rB
    | .neq => (ofO 105 (eqO cx t ss qs)).bind fun x => rB (!x)
    | _ => .stuck 106
  | .c x, .c y => match op with
    | .eql => (ofO 107 (eq1 cx t x y)).bind fun r => .ret (rd1 r)
    | .neq => (ofO 107 (eq1 cx t x y)).bind fun r => .ret (rd1 (notS r))
    | _ => .stuck 108
  | _, _ => .stuck 109
def unV (op : UnOp) : Sc → Tr SV
  | .kb x => match op with
    | .not => rK (!x)
    | _ => .stuck 110
  | .b x => match op with
    | .not => rB (!x)
    | _ => .stuck 110
  | .i k n => match op with
    | .neg => rI k (k.wrap (0 - n))
    | .xor => rI k (bits .xor k (if k.signed then -1 else k.max) n)
    | _ => .stuck 110
  | _ => .stuck 110
def convV (s d : TypeDesc) : Sc → Tr SV
  | .i _ n => match s, d with
    | .int _, .int k' => rI k' (k'.wrap n)
    | _, _ => .stuck 111
  | _ => .stuck 112
def loadV (ti : TyI) (H : List Bk) (R : List Rw) : Sc → Tr SV
  | .p n o => (ofO 113 (nth H n)).bind fun B => bif ti.ag then (ofO 114 (getN B.ss o ti.sz)).bind fun ss => .ret (.v (.agg ss)) else (ofO 115 (getC B.ss o)).bind fun x => .ret (rd1 x)
  | .pe n base sz m c => (ofO 113 (nth H n)).bind fun B => (ofO 116 (getR B.ss base)).bind fun
    | .arr id k l => bif Nat.beq (Sh.sz id) sz then .ass (m < k) (bif ti.ag then (bif Nat.ble (c + ti.sz) sz then .ret (.v (.agg (((elAt id l m).drop c).take ti.sz |>.map Seg.one))) else .stuck 140) else (ofO 117 (nth (elAt id l m) c)).bind fun x => .ret (rd1 x)) else .stuck 118
    | _ => .stuck 119
  | .rp r sz m c => (ofO 120 (nth R r)).bind fun ⟨id, l⟩ =>
    bif Nat.beq (Sh.sz id) sz then .ass (m < l.length) (bif ti.ag then (bif Nat.ble (c + ti.sz) sz then .ret (.v (.agg (((elAt id l m).drop c).take ti.sz |>.map Seg.one))) else .stuck 140) else (ofO 117 (nth (elAt id l m) c)).bind fun x => .ret (rd1 x)) else .stuck 118
  | _ => .stuck 121
def fields : TypeDesc → List Field
  | .struct fs => fs.toList
  | _ => []
def fieldO (cx : Ctx) (t f : Nat) : Option (Nat × TyI) := (cx.ty.get t).bind fun ti => (nth (fields ti.d) f).bind fun fd => (cx.ty.get fd.type).map fun ft => (fd.offset, ft)
def fieldA (o : Nat) : Sc → Tr SV
  | .p n k => .ret (rd1 (.p n (k + o)))
  | .pe n base sz m c => .ret (rd1 (.pe n base sz m (c + o)))
  | .rp r sz m c => .ret (rd1 (.rp r sz m (c + o)))
  | _ => .stuck 122
def elemO (cx : Ctx) (t : Nat) : Option (Option Nat × TyI) := (cx.ty.get t).bind fun ti => match ti.d with
  | .array n el => (cx.ty.get el).map fun e => (some n, e)
  | .slice el => (cx.ty.get el).map fun e => (none, e)
  | _ => none
def indexA (n : Option Nat) (s : Nat) (i : Int) : Sc → Tr SV
  | .p b o => (ofO 123 n).bind fun n => .ass (0 ≤ i ∧ i < n) (.ret (rd1 (.pe b o s i.toNat 0)))
  | .sl b base sz eo len _ => match n with
    | none => bif Nat.beq sz s then .ass (0 ≤ i ∧ i < len) (.ret (rd1 (.pe b base sz (eo + i.toNat) 0))) else .stuck 124
    | some _ => .stuck 125
  | .rs r sz eo len _ _ => match n with
    | none => bif Nat.beq sz s then .ass (0 ≤ i ∧ i < len) (.ret (rd1 (.rp r sz (eo + i.toNat) 0))) else .stuck 124
    | some _ => .stuck 125
  | _ => .stuck 126
def isStr (cx : Ctx) (t : Nat) : Bool := match cx.ty.get t with
  | some ti => match ti.d with
    | .string => true
    | _ => false
  | none => false
def indexV (cx : Ctx) (t : Nat) (i : Int) : V1 → Tr SV
  | .c (.s l) => bif isStr cx t then .ass (0 ≤ i ∧ i < l.length) (rI .u8 (l.getD i.toNat 0).toNat) else .stuck 146
  | .agg ss => (ofO 127 (elemO cx t)).bind fun ⟨n, e⟩ => (ofO 128 n).bind fun n => (ofO 129 (getR ss 0)).bind fun
    | .arr id k l => bif Nat.beq (Sh.sz id) e.sz && Nat.beq k n then .ass (0 ≤ i ∧ i < k) (bif e.ag then .ret (.v (.agg ((elAt id l i.toNat).map Seg.one))) else (ofO 130 (nth (elAt id l i.toNat) 0)).bind fun x => .ret (rd1 x)) else .stuck 131
    | _ => .stuck 132
  | _ => .stuck 133
def fieldV (o : Nat) (ft : TyI) : V1 → Tr SV
  | .agg ss => bif ft.ag then (ofO 134 (getN ss o ft.sz)).bind fun qs => .ret (.v (.agg qs)) else (ofO 135 (getC ss o)).bind fun x => .ret (rd1 x)
  | _ => .stuck 136
/-- a whole element of one row -/
def elL (sz o : Nat) (qs : List Seg) : List Seg → Option (List Seg)
  | [.arr id k l] => bif Nat.beq (Sh.sz id) sz && Nat.blt 0 sz && Nat.beq (o % sz) 0 && Nat.blt (o / sz) k then ((ones qs).bind (Sh.un id)).map fun z => [.arr id k (setAt l (o / sz) z)] else none
  | _ => none
def orO {α : Type} : Option α → Option α → Option α
  | some x, _ => some x
  | none, y => y
def layV (ss : List Seg) (o sz : Nat) : V1 → Option (List Seg)
  | .c x => bif Nat.beq sz 1 then setC ss o x else none
  | .agg qs => orO (elL sz o qs ss) (bif Nat.beq sz ((qs.map segSz).foldr (· + ·) 0) then setN ss o qs else none)
def placeO (cx : Ctx) (t : Nat) (i : Nat) : Option (Nat × Nat) := (cx.ty.get t).bind fun ti => match ti.d with
  | .struct fs => (nth fs.toList i).bind fun fd => (cx.ty.get fd.type).map fun ft => (fd.offset, ft.sz)
  | .array _ el => (cx.ty.get el).map fun e => (i * e.sz, e.sz)
  | _ => none
def buildV (cx : Ctx) (t : Nat) (e : Env) : List Seg → List (Nat × Operand) → Option (List Seg)
  | ss, [] => some ss
  | ss, (i, x) :: r => match placeO cx t i, ev1 e x with
    | some (o, sz), some v => match layV ss o sz v with
      | some qs => buildV cx t e qs r
      | none => none
    | _, _ => none
def fieldsOk (cx : Ctx) : List Field → Bool
  | [] => true
  | f :: r => (cx.ty.get f.type).isSome && fieldsOk cx r
def placesOk (cx : Ctx) : TypeDesc → Bool
  | .struct fs => fieldsOk cx fs.toList
  | .array _ el => (cx.ty.get el).isSome
  | _ => false
def optI (e : Env) : Option Operand → Option (Option Int)
  | none => some none
  | some x => match evS e x with
    | some (.i _ n) => some (some n)
    | _ => none
def bnd (d : Nat) : Option Int → Int
  | some n => n
  | none => d
/-- the array that is sliced, by its address or by a pointer -/
def arrOf (cx : Ctx) (t : Nat) : Option Nat := match cx.ty.get t with
  | some ti => match ti.d with
    | .array .. => some t
    | .pointer a => some a
    | _ => none
  | none => none
def sliceV (cx : Ctx) (t : Nat) (lo hi : Option Int) : Sc → Tr SV
  | .s l => bif isStr cx t then .ass (0 ≤ bnd l.length hi ∧ bnd l.length hi ≤ l.length) (.ass (0 ≤ bnd 0 lo ∧ bnd 0 lo ≤ (bnd l.length hi).toNat) (.ret (rd1 (.s ((l.drop (bnd 0 lo).toNat).take ((bnd l.length hi).toNat - (bnd 0 lo).toNat)))))) else .stuck 146
  | .sl b base sz eo len cap => (ofO 137 (elemO cx t)).bind fun ⟨n, e⟩ => match n with
    | none => bif Nat.beq sz e.sz then
        .ass (0 ≤ bnd len hi ∧ bnd len hi ≤ cap) (.ass (0 ≤ bnd 0 lo ∧ bnd 0 lo ≤ (bnd len hi).toNat)
          (match lo with
            | none => .ret (rd1 (.sl b base sz eo (bnd len hi).toNat cap))
            | some l => .ret (rd1 (.sl b base sz (bif Nat.beq cap l.toNat then eo else eo + l.toNat) ((bnd len hi).toNat - l.toNat) (cap - l.toNat))))) else .stuck 138
    | some _ => .stuck 139
  | .rs r sz eo len cap A => (ofO 137 (elemO cx t)).bind fun ⟨n, e⟩ => match n with
    | none => bif Nat.beq sz e.sz then
        .ass (0 ≤ bnd len hi ∧ bnd len hi ≤ len) <| .ass (0 ≤ bnd 0 lo ∧ bnd 0 lo ≤ (bnd len hi).toNat) <| .ass (len ≤ cap)
          (match lo with
            | none => .ret (rd1 (.rs r sz eo (bnd len hi).toNat cap A))
            | some l => .ret (rd1 (.rs r sz (bif Nat.beq cap l.toNat then eo else eo + l.toNat) ((bnd len hi).toNat - l.toNat) (cap - l.toNat) (bif Nat.beq cap l.toNat then A else A.map (·.add (l.toNat * sz)))))) else .stuck 138
    | some _ => .stuck 139
  | .p b o => (ofO 141 (arrOf cx t)).bind fun a => (ofO 142 (elemO cx a)).bind fun ⟨n, e⟩ => (ofO 143 n).bind fun n =>
        .ass (0 ≤ bnd n hi ∧ bnd n hi ≤ n) (.ass (0 ≤ bnd 0 lo ∧ bnd 0 lo ≤ (bnd n hi).toNat)
          (match lo with
            | none => .ret (rd1 (.sl b o e.sz 0 (bnd n hi).toNat n))
            | some l => .ret (rd1 (.sl b o e.sz (bif Nat.beq n l.toNat then 0 else l.toNat) ((bnd n hi).toNat - l.toNat) (n - l.toNat)))))
  | .ns => (ofO 137 (elemO cx t)).bind fun ⟨n, e⟩ => match n with
    | none => .ass (0 ≤ bnd 0 hi ∧ bnd 0 hi ≤ 0) (.ass (0 ≤ bnd 0 lo ∧ bnd 0 lo ≤ 0) (.ret (rd1 .ns)))
    | some _ => .stuck 139
  | _ => .stuck 145

/-! ### Calls: a callee's blocks by numbers of its own -/
def mem (n : Nat) : List Nat → Bool
  | [] => false
  | x :: r => Nat.beq x n || mem n r
def idx (n : Nat) : List Nat → Nat
  | [] => 0
  | x :: r => bif Nat.beq x n then 0 else idx n r + 1
def nmS : Sc → List Nat
  | .p n _ => [n]
  | .pe n _ _ _ _ => [n]
  | .sl n _ _ _ _ _ => [n]
  | _ => []
def nmG : List Seg → List Nat
  | [] => []
  | .one x :: r => nmS x ++ nmG r
  | .arr .. :: r => nmG r
def nm1 : V1 → List Nat
  | .c x => nmS x
  | .agg ss => nmG ss
def nmL : List V1 → List Nat
  | [] => []
  | x :: r => nm1 x ++ nmL r
def nmV : SV → List Nat
  | .v x => nm1 x
  | .tup xs => nmL xs
  | .und => []
def nmA : List SV → List Nat
  | [] => []
  | x :: r => nmV x ++ nmA r
def reach (H : List Bk) : Nat → List Nat → List Nat → List Nat
  | 0, _, acc => acc
  | _ + 1, [], acc => acc
  | f + 1, n :: r, acc => bif mem n acc then reach H f r acc else match nth H n with
    | some B => reach H f (r ++ nmG B.ss) (acc ++ [n])
    | none => reach H f r acc
def rnS (g : Nat → Nat) : Sc → Sc
  | .kb x => .b x
  | .p n o => .p (g n) o
  | .pe n b s m c => .pe (g n) b s m c
  | .sl n b s eo len cap => .sl (g n) b s eo len cap
  | x => x
def rnG (g : Nat → Nat) : List Seg → List Seg
  | [] => []
  | .one x :: r => .one (rnS g x) :: rnG g r
  | s :: r => s :: rnG g r
def rn1 (g : Nat → Nat) : V1 → V1
  | .c x => .c (rnS g x)
  | .agg ss => .agg (rnG g ss)
def rnV (g : Nat → Nat) : SV → SV
  | .v x => .v (rn1 g x)
  | .tup xs => .tup (xs.map (rn1 g))
  | .und => .und
def rnB (g : Nat → Nat) (B : Bk) : Bk := { B with ss := rnG g B.ss }
def pickB (H : List Bk) : List Nat → Option (List Bk)
  | [] => some []
  | n :: r => match nth H n, pickB H r with
    | some B, some Bs => some (B :: Bs)
    | _, _ => none
def allLt (n : Nat) : List Nat → Bool
  | [] => true
  | x :: r => Nat.blt x n && allLt n r
def len {α : Type} : List α → Nat
  | [] => 0
  | _ :: r => len r + 1
/-- a callee's numbers, told as the caller's -/
def backN (ns : List Nat) (n : Nat) (i : Nat) : Nat := match nth ns i with
  | some k => k
  | none => n + (i - len ns)
def putB (g : Nat → Nat) : List Nat → List Bk → List Bk → List Bk
  | [], H, new => H ++ new.map (rnB g)
  | n :: r, H, B :: Bs => putB g r (setAt H n (rnB g B)) Bs
  | _ :: _, H, [] => H
def roB (H : List Bk) : List Bk := H.map fun B => { B with wr := false }
def wrN (H : List Bk) : List Nat → List Nat
  | [] => []
  | n :: r => match nth H n with
    | some B => bif B.wr then n :: wrN H r else wrN H r
    | none => wrN H r
structure Rs where
  v : SV
  H : List Bk
  tch : List Nat
def callN (args : List SV) (H : List Bk) : List Nat := reach H 200 (nmA args) []
/-- one answer alone -/
def Tr.one {α : Type} : Tr α → Tr α
  | .ret x => .ret x
  | .ite b t f => .ite b t.one f.one
  | .ass p t => .ass p t.one
  | _ => .stuck 148
def nodupB : List Nat → Bool
  | [] => true
  | x :: r => !mem x r && nodupB r
def nmBs : List Bk → List Nat
  | [] => []
  | B :: r => nmG B.ss ++ nmBs r
def allIn (ns : List Nat) : List Nat → Bool
  | [] => true
  | x :: r => mem x ns && allIn ns r
def okN (ns : List Nat) (args : List SV) (Bs : List Bk) : Bool := nodupB ns && (allIn ns (nmA args) && allIn ns (nmBs Bs))
def callRo (con : Con) (args : List SV) (H : List Bk) (R : List Rw) : Tr SV :=
  let ns := callN args H
  (ofO 150 (pickB H ns)).bind fun Bs => bif okN ns args Bs then ((con.run (args.map (rnV (idx · ns))) (roB (Bs.map (rnB (idx · ns)))) R).one).bind fun x =>
    bif allLt (len ns) (nmV x.1) then .ret (rnV (backN ns (len H)) x.1) else .stuck 151 else .stuck 149
def callE (con : Con) (args : List SV) (H : List Bk) (R : List Rw) : Tr Rs :=
  let ns := callN args H
  (ofO 152 (pickB H ns)).bind fun Bs => bif okN ns args Bs then (con.run (args.map (rnV (idx · ns))) (Bs.map (rnB (idx · ns))) R).bind fun x =>
    .ret ⟨rnV (backN ns (len H)) x.1, putB (backN ns (len H)) ns H x.2, wrN H ns⟩ else .stuck 149

/-! ### An operation -/
def isSl (cx : Ctx) (t : Nat) : Bool := match cx.ty.get t with
  | some ti => match ti.d with
    | .slice _ => true
    | _ => false
  | none => false
def lenV (cx : Ctx) (t : Nat) : Sc → Tr SV
  | .s l => bif isStr cx t then rI .i64 l.length else .stuck 160
  | .sl _ _ _ _ n _ => bif isSl cx t then rI .i64 n else .stuck 160
  | .rs _ _ _ n _ _ => bif isSl cx t then rI .i64 n else .stuck 160
  | .ns => bif isSl cx t then rI .i64 0 else .stuck 160
  | _ => .stuck 160
def opV (cx : Ctx) (e : Env) (H : List Bk) (R : List Rw) : Op → Tr SV
  | .move x => ofO 161 (ev e x)
  | .assign x => ofO 161 (ev e x)
  | .pick c a b => (ofO 162 (evS e c)).bind fun
    | .kb x => ofO 161 (ev e (bif x then a else b))
    | .b x => (ofO 163 (ev1 e a)).bind fun u => (ofO 163 (ev1 e b)).bind fun v => (ofO 164 (mrgV x u v)).bind fun z => .ret (.v z)
    | _ => .stuck 165
  | .nilCheck x => (ofO 166 (evS e x)).bind fun
    | .p n o => .ret (rd1 (.p n o))
    | .pe n b s m c => .ret (rd1 (.pe n b s m c))
    | .rp r s m c => .ret (rd1 (.rp r s m c))
    | _ => .stuck 167
  | .binOp op t x y _ => (ofO 168 (ev1 e x)).bind fun u => (ofO 168 (ev1 e y)).bind fun v => binV cx op t u v
  | .unOp op _ x => (ofO 169 (evS e x)).bind (unV op)
  | .convert s d x => (ofO 170 (cx.ty.get s)).bind fun ts => (ofO 170 (cx.ty.get d)).bind fun td => (ofO 171 (evS e x)).bind (convV ts.d td.d)
  | .load t x => (ofO 172 (cx.ty.get t)).bind fun ti => (ofO 173 (evS e x)).bind (loadV ti H R)
  | .fieldAddr t x f => (ofO 174 (fieldO cx t f)).bind fun ⟨o, ft⟩ => bif Nat.beq ft.sz 0 then .stuck 175 else (ofO 176 (evS e x)).bind (fieldA o)
  | .indexAddr t x y => (ofO 177 (elemO cx t)).bind fun ⟨n, el⟩ => (ofO 178 (evS e y)).bind fun
    | .i _ i => (ofO 179 (evS e x)).bind (indexA n el.sz i)
    | _ => .stuck 180
  | .index t x y => (ofO 181 (evS e y)).bind fun
    | .i _ i => (ofO 182 (ev1 e x)).bind (indexV cx t i)
    | _ => .stuck 183
  | .field t x f => (ofO 184 (fieldO cx t f)).bind fun ⟨o, ft⟩ => (ofO 185 (ev1 e x)).bind (fieldV o ft)
  | .extract x i => (ofO 186 (ev e x)).bind fun
    | .tup xs => (ofO 187 (nth xs i)).bind fun v => .ret (.v v)
    | _ => .stuck 188
  | .build t ps => (ofO 189 (cx.ty.get t)).bind fun ti => bif !placesOk cx ti.d then .stuck 147 else (ofO 190 ti.z).bind fun z => (ofO 191 (buildV cx t e (segsOf z) ps.toList)).bind fun ss => .ret (.v (.agg ss))
  | .slice t x lo hi mx => match mx with
    | some _ => .stuck 192
    | none => (ofO 193 (optI e lo)).bind fun l => (ofO 193 (optI e hi)).bind fun h => (ofO 194 (evS e x)).bind (sliceV cx t l h)
  | .call ⟨.builtin .len, xs, ts⟩ => match xs.toList, ts.toList with
    | [x], [t] => (ofO 195 (evS e x)).bind (lenV cx t)
    | _, _ => .stuck 196
  | .call ⟨.builtin .min, xs, _⟩ => match xs.toList with
    | [x, y] => (ofO 197 (evS e x)).bind fun
      | .i k m => (ofO 197 (evS e y)).bind fun
        | .i k' n => bif Nat.beq (kc k) (kc k') then rI k (if n < m then n else m) else .stuck 198
        | _ => .stuck 198
      | _ => .stuck 198
    | _ => .stuck 199
  | .call ⟨.builtin .max, xs, _⟩ => match xs.toList with
    | [x, y] => (ofO 197 (evS e x)).bind fun
      | .i k m => (ofO 197 (evS e y)).bind fun
        | .i k' n => bif Nat.beq (kc k) (kc k') then rI k (if m < n then n else m) else .stuck 198
        | _ => .stuck 198
      | _ => .stuck 198
    | _ => .stuck 199
  | .call ⟨.value (.func f), xs, _⟩ => match cx.con f with
    | some con => bif con.ro then (ofO 201 (evs e xs.toList)).bind fun vs => callRo con vs H R else .stuck 202
    | none => .stuck 200
  | _ => .stuck 203
/-- has an operation no effect? -/
def quiet (cx : Ctx) : Op → Bool
  | .store .. => false
  | .alloc .. => false
  | .box .. => false
  | .buildSlice .. => false
  | .makeSlice .. => false
  | .call ⟨.builtin .append, _, _⟩ => false
  | .call ⟨.builtin .copy, _, _⟩ => false
  | .call ⟨.value (.func f), _, _⟩ => match cx.con f with
    | some con => con.ro
    | none => false
  | _ => true
def szL (ss : List Seg) : Nat := (ss.map segSz).foldr (· + ·) 0
def storeE (ti : TyI) (H : List Bk) (y : V1) : Sc → Tr Rs
  | .p n o => (ofO 210 (nth H n)).bind fun B => bif B.wr then (ofO 211 (layV B.ss o ti.sz y)).bind fun ss => .ret ⟨.und, setAt H n { B with ss := ss }, [n]⟩ else .stuck 212
  | .pe n base sz m c => (ofO 213 (nth H n)).bind fun B => bif B.wr then (ofO 214 (getR B.ss base)).bind fun
      | .arr id k l => bif Nat.beq (Sh.sz id) sz then (ofO 215 (scOf y)).bind fun cs => bif Nat.beq ti.sz (len cs) && Nat.ble (c + len cs) sz then
          .ass (m < k) ((ofO 216 (Sh.un id (setL (elAt id l m) c cs))).bind fun z => (ofO 217 (setR B.ss base (.arr id k (l.set m z)))).bind fun ss => .ret ⟨.und, setAt H n { B with ss := ss }, [n]⟩) else .stuck 218 else .stuck 219
      | _ => .stuck 220
    else .stuck 221
  | _ => .stuck 222
def repL {α : Type} (x : α) : Nat → List α
  | 0 => []
  | n + 1 => x :: repL x n
def elemsV (e : Env) (id : Nat) (zs : List Sc) : List (Sh id) → List (Nat × Operand) → Option (List (Sh id))
  | l, [] => some l
  | l, (i, x) :: r => match (ev1 e x).bind scOf with
    | some cs => match Sh.un id cs with
      | some z => elemsV e id zs (setAt l i z) r
      | none => none
    | none => none
def castL (id id' : Nat) (l : List (Sh id)) : Option (List (Sh id')) := if h : id = id' then some (h ▸ l) else none
/-- a row's elements that are put behind another one -/
def newsO (H : List Bk) (R : List Rw) (id s : Nat) : Sc → Tr (Nat × List (Sh id))
  | .sl b 0 sz eo m _ => (ofO 250 (nth H b)).bind fun B => match B.ss with
    | [.arr id' k l] => (ofO 251 (castL id' id l)).bind fun l => bif Nat.beq sz s then .ass (eo + m ≤ k) (.ret (m, (l.drop eo).take m)) else .stuck 252
    | _ => .stuck 253
  | .rs r sz eo m _ _ => (ofO 254 (nth R r)).bind fun r => (ofO 255 (castL r.id id r.l)).bind fun l => bif Nat.beq sz s then .ass (0 < m ∧ eo + m ≤ l.length) (.ret (m, (l.drop eo).take m)) else .stuck 256
  | _ => .stuck 257
/-- a row's elements in a block of its own, that has grown -/
def grownE (H : List Bk) (te id s n m : Nat) (ls news : List (Sh id)) : Tr Rs :=
  .any Nat fun cap => .any (List (Sh id)) fun L => .hyp (n + m ≤ cap ∧ L.length = cap ∧ L.take (n + m) = ls ++ news) (.ret ⟨rd1 (.sl (len H) 0 s 0 (n + m) cap), H ++ [⟨te, [.arr id cap L], true⟩], []⟩)
def makeE (H : List Bk) (sz id : Nat) (z0 : Sh id) (d : TypeDesc) (l c : Sc) : Tr Rs := match d with
  | .slice te => match l, c with
    | .i _ n, .i _ m => bif Nat.beq (Sh.sz id) sz && Nat.blt 0 sz && Nat.ble sz 1024 then .ass (0 ≤ n ∧ n ≤ m ∧ m ≤ 65536) (.ret ⟨rd1 (.sl (len H) 0 sz 0 n.toNat m.toNat), H ++ [⟨te, [.arr id m.toNat (List.replicate m.toNat z0)], true⟩], []⟩) else .stuck 293
    | _, _ => .stuck 294
  | _ => .stuck 295
def appE (cx : Ctx) (H : List Bk) (R : List Rw) (t : Nat) (x y : Sc) : Tr Rs :=
  (ofO 260 (cx.ty.get t)).bind fun ti => match ti.d with
  | .slice te => (ofO 261 (cx.ty.get te)).bind fun el => (ofO 262 el.sh).bind fun id => (ofO 263 el.z).bind fun z => (ofO 264 (scOf z)).bind fun zc => (ofO 265 (Sh.un id zc)).bind fun _ =>
    bif Nat.beq (Sh.sz id) el.sz && Nat.blt 0 el.sz && Nat.ble el.sz 1024 then (newsO H R id el.sz y).bind fun nw =>
      match x with
      | .ns => .ass (nw.1 ≤ 65536) (.ite (decide (nw.1 = 0)) (.ret ⟨rd1 .ns, H, []⟩) (grownE H te id el.sz 0 nw.1 [] nw.2))
      | .sl b 0 sz 0 n cap => (ofO 266 (nth H b)).bind fun B => match B.ss with
        | [.arr id' k l] => (ofO 267 (castL id' id l)).bind fun l => bif Nat.beq sz el.sz && Nat.beq B.t te && B.wr then
          .ass (n ≤ cap ∧ cap ≤ k ∧ n + nw.1 ≤ 65536) (.ite (decide (n + nw.1 ≤ cap))
            (.any (List (Sh id)) fun L => .hyp (L.length = k ∧ L.take (n + nw.1) = l.take n ++ nw.2) (.ret ⟨rd1 (.sl b 0 sz 0 (n + nw.1) cap), setAt H b ⟨B.t, [.arr id k L], true⟩, [b]⟩))
            (grownE H te id el.sz n nw.1 (l.take n) nw.2)) else .stuck 268
        | _ => .stuck 269
      | _ => .stuck 270
    else .stuck 271
  | _ => .stuck 272
def appA (cx : Ctx) (e : Env) (H : List Bk) (R : List Rw) : List Operand → List TypeId → Tr Rs
  | [x, y], [t, t'] => bif Nat.beq t t' then (ofO 280 (evS e x)).bind fun x => (ofO 281 (evS e y)).bind fun y => appE cx H R t x y else .stuck 282
  | _, _ => .stuck 283
def opC (cx : Ctx) (e : Env) (H : List Bk) (R : List Rw) (xs : List Operand) (ts : List TypeId) : Callee → Tr Rs
  | .value (.func f) => match cx.con f with
    | some con => bif con.ro then .stuck 247 else (ofO 245 (evs e xs)).bind fun vs => callE con vs H R
    | none => .stuck 244
  | .builtin b => match b with
    | .append => appA cx e H R xs ts
    | _ => .stuck 248
  | _ => .stuck 249
def opE (cx : Ctx) (e : Env) (H : List Bk) (R : List Rw) : Op → Tr Rs
  | .store t x y => (ofO 230 (cx.ty.get t)).bind fun ti => (ofO 231 (ev1 e y)).bind fun v => (ofO 232 (evS e x)).bind (storeE ti H v)
  | .box t x => (ofO 233 (ev1 e x)).bind fun v => .ret ⟨rd1 (.p (len H) 0), H ++ [⟨t, segsOf v, true⟩], []⟩
  | .alloc t => (ofO 234 (cx.ty.get t)).bind fun ti => (ofO 235 ti.z).bind fun z => .ret ⟨rd1 (.p (len H) 0), H ++ [⟨t, segsOf z, true⟩], []⟩
  | .buildSlice t n ps => (ofO 236 (elemO cx t)).bind fun ⟨_, el⟩ => (ofO 237 el.z).bind fun z => (ofO 238 el.sh).bind fun id => (ofO 239 ((scOf z).bind (Sh.un id))).bind fun z0 => (ofO 240 (elemsV e id [] (repL z0 n) ps.toList)).bind fun l =>
      (ofO 241 (cx.ty.get t)).bind fun ti => match ti.d with
        | .slice t' => bif Nat.beq (Sh.sz id) el.sz && Nat.ble (n * el.sz) 16777216 && Nat.blt 0 el.sz && ps.toList.all (fun p => Nat.blt p.1 n) then .ret ⟨rd1 (.sl (len H) 0 el.sz 0 n n), H ++ [⟨t', [.arr id n l], true⟩], []⟩ else .stuck 242
        | _ => .stuck 243
  | .call c => opC cx e H R c.args.toList c.argTypes.toList c.callee
  | .makeSlice t l c => (ofO 236 (elemO cx t)).bind fun ⟨_, el⟩ => (ofO 237 el.z).bind fun z => (ofO 238 el.sh).bind fun id => (ofO 239 ((scOf z).bind (Sh.un id))).bind fun z0 => (ofO 291 (evS e l)).bind fun l => (ofO 292 (evS e c)).bind fun c => (ofO 241 (cx.ty.get t)).bind fun ti => makeE H el.sz id z0 ti.d l c
  | _ => .stuck 246

/-! ### Regions in the text's order -/
abbrev St := Env × List Bk
def updO (e : Env) (d : Option Nat) (v : SV) : Env := match d with
  | some d => (d, v) :: e
  | none => e
def step (cx : Ctx) (o : Oper) (e : Env) (H : List Bk) (R : List Rw) : Tr St :=
  bif quiet cx o.op then (opV cx e H R o.op).bind fun v => .ret (updO e o.dst v, H)
  else (opE cx e H R o.op).bind fun r => .ret (updO e o.dst r.v, r.H)
def gslot (ops : List Oper) (j : Nat) : Option Nat := (nth ops j).bind (·.dst)
/-- where a short circuit on this slot ends: how many operations on -/
def pickAt (s : Nat) : List Oper → Option Nat
  | [] => none
  | o :: r => match o.op with
    | .pick (.tmp t) _ _ => bif Nat.beq t s then some 0 else (pickAt s r).map (· + 1)
    | _ => (pickAt s r).map (· + 1)
def calm (cx : Ctx) : Nat → List Oper → Bool
  | 0, _ => true
  | _ + 1, [] => false
  | n + 1, o :: r => quiet cx o.op && calm cx n r
/-- both ways of a short circuit, told as one -/
def mrgF (b : Bool) (x : Bool) : Tr Bool → Tr Bool
  | .ret y => .ret (bif b then x else y)
  | .ass p u => .ass (b = false → p) (mrgF b x u)
  | u => .ite b (.ret x) u
def mrgT (b : Bool) : Tr Bool → Tr Bool → Tr Bool
  | .ret x, u => mrgF b x u
  | .ass p t, u => .ass (b = true → p) (mrgT b t u)
  | t, u => .ite b t u
def lastB (d : Nat) (st : St) : Tr Bool := match lk st.1 d with
  | some (.v (.c x)) => ofO 250 (bo x)
  | _ => .stuck 251
def dOk (N : Nat) : Option Nat → Bool
  | some d => Nat.blt d N
  | none => true
/-- the slots that these operations write -/
def dsts : Nat → List Oper → List Nat
  | 0, _ => []
  | _ + 1, [] => []
  | n + 1, o :: r => match o.dst with
    | some d => d :: dsts n r
    | none => dsts n r
def dropD (ds : List Nat) : Env → Env
  | [] => []
  | (k, v) :: r => bif mem k ds then dropD ds r else (k, v) :: dropD ds r
/-- operations, of which the whole row is ops; n of them -/
def runN (cx : Ctx) (N : Nat) (ops : List Oper) (R : List Rw) : (fuel n : Nat) → List Oper → Env → List Bk → Tr St
  | 0, _, _, _, _ => .stuck 252
  | _ + 1, 0, _, e, H => .ret (e, H)
  | _ + 1, _ + 1, [], e, H => .ret (e, H)
  | f + 1, n + 1, o :: r, e, H => bif dOk N o.dst then match o.guard with
    | none => (step cx o e H R).bind fun st => runN cx N ops R f n r st.1 st.2
    | some (j, want) => match gslot ops j with
      | none => .stuck 253
      | some s => match lk e s with
        | some .und => runN cx N ops R f n r (updO e o.dst .und) H
        | some (.v (.c (.kb x))) => bif x == want then (step cx o e H R).bind fun st => runN cx N ops R f n r st.1 st.2 else runN cx N ops R f n r (updO e o.dst .und) H
        | some (.v (.c (.b x))) => match pickAt s (o :: r) with
          | some k => bif Nat.ble (k + 1) (n + 1) && calm cx (k + 1) (o :: r) then match (nth (o :: r) k).bind (·.dst) with
              | some d => bif Nat.blt d N && !mem s (dsts (k + 1) (o :: r)) then (mrgT x ((runN cx N ops R f (k + 1) (o :: r) ((s, .v (.c (.kb true))) :: e) H).bind (lastB d)) ((runN cx N ops R f (k + 1) (o :: r) ((s, .v (.c (.kb false))) :: e) H).bind (lastB d))).bind fun z =>
                  runN cx N ops R f (n - k) ((o :: r).drop (k + 1)) ((d, .v (.c (.b z))) :: (s, .v (.c (.b x))) :: dropD (s :: dsts (k + 1) (o :: r)) e) H else .stuck 257
              | none => .stuck 254
            else .ite x (runN cx N ops R f (n + 1) (o :: r) ((s, .v (.c (.kb true))) :: e) H) (runN cx N ops R f (n + 1) (o :: r) ((s, .v (.c (.kb false))) :: e) H)
          | none => .ite x (runN cx N ops R f (n + 1) (o :: r) ((s, .v (.c (.kb true))) :: e) H) (runN cx N ops R f (n + 1) (o :: r) ((s, .v (.c (.kb false))) :: e) H)
        | _ => .stuck 255
    else .stuck 256
/-- in the text's order -/
def runL (cx : Ctx) (N : Nat) (ops : Array Oper) (R : List Rw) (e : Env) (H : List Bk) : Tr St := runN cx N ops.toList R (3 * len ops.toList + 3) (len ops.toList) ops.toList e H

def rdO (e : Env) (H : List Bk) : Op → List Nat × Bool
  | .load _ x => match evS e x with
    | some (.p n _) => ([n], false)
    | some (.pe n _ _ _ _) => ([n], false)
    | some (.rp ..) => ([], true)
    | _ => ([], false)
  | .call ⟨.value (.func _), xs, _⟩ => match evs e xs.toList with
    | some vs => (callN vs H, true)
    | none => ([], true)
  | _ => ([], false)
/-! ### Regions that draw their order -/
/-- which blocks an effect of a drawn region may turn -/
def look (T : List (Nat × List Nat)) (j : Nat) : List Nat := match T with
  | [] => []
  | (k, l) :: r => bif Nat.beq k j then l ++ look r j else look r j
def geAny (m0 : Nat) : List Nat → Bool
  | [] => false
  | n :: r => Nat.ble m0 n || geAny m0 r
def offB (T : List (Nat × List Nat)) (m0 n : Nat) : List Nat → Bool
  | [] => true
  | j :: r => !mem n (look T j) && (Nat.blt n m0 || !geAny m0 (look T j)) && offB T m0 n r
def offL (T : List (Nat × List Nat)) (m0 : Nat) (js : List Nat) : List Nat → Bool
  | [] => true
  | n :: r => offB T m0 n js && offL T m0 js r
def clearB (T : List (Nat × List Nat)) : List Nat → Bool
  | [] => true
  | j :: r => (match look T j with
    | [] => true
    | _ => false) && clearB T r
def okRd (T : List (Nat × List Nat)) (m0 : Nat) (js : List Nat) (rd : List Nat × Bool) : Bool := offL T m0 js rd.1 && (!rd.2 || clearB T js)
def okT (T : List (Nat × List Nat)) (m0 j : Nat) : List Nat → Bool
  | [] => true
  | n :: r => (bif Nat.blt n m0 then mem n (look T j) else geAny m0 (look T j)) && okT T m0 j r
def firstQ (cx : Ctx) (ops : Array Oper) : List Nat → Option Nat
  | [] => none
  | i :: r => match ops[i]? with
    | some o => bif quiet cx o.op then some i else firstQ cx ops r
    | none => firstQ cx ops r
def mkPlan (cx : Ctx) (ops : Array Oper) : Nat → Array Bool → Plan
  | 0, _ => .fin
  | n + 1, l => match Region.ready .any ops l with
    | [] => .fin
    | rs => match firstQ cx ops rs with
      | some i => .take i (unord ops l i) (mkPlan cx ops n (l.setIfInBounds i true))
      | none => match rs with
        | [j] => .one j (mkPlan cx ops n (l.setIfInBounds j true))
        | [j, j'] => .two j (mkPlan cx ops n (l.setIfInBounds j true)) j' (mkPlan cx ops n (l.setIfInBounds j' true))
        | _ => .fin
/-- a guard's answer: run it, pass it over, ask -/
inductive Gd where
  | yes
  | no
  | ask (s : Nat) (x : Bool) (want : Bool)
  | bad
def gdO (ops : List Oper) (e : Env) (o : Oper) : Gd := match o.guard with
  | none => .yes
  | some (j, want) => match gslot ops j with
    | none => .bad
    | some s => match lk e s with
      | some .und => .no
      | some (.v (.c (.kb x))) => bif x == want then .yes else .no
      | some (.v (.c (.b x))) => .ask s x want
      | _ => .bad
abbrev Tch := List (Nat × List Nat)
/-- chk: are the sets held against what is done? (the first time they are gathered) -/
def runD (cx : Ctx) (N : Nat) (ops : List Oper) (R : List Rw) (chk : Bool) (T : Tch) (m0 : Nat) : Plan → Env → List Bk → Tch → Tr (St × Tch)
  | .fin, e, H, g => .ret ((e, H), g)
  | .take i js r, e, H, g => match nth ops i with
    | none => .stuck 280
    | some o => match o.dst with
      | none => .stuck 281
      | some d => bif Nat.blt d N && quiet cx o.op then match gdO ops e o with
        | .bad => .stuck 282
        | .no => runD cx N ops R chk T m0 r ((d, .und) :: e) H g
        | .yes => bif !chk || okRd T m0 js (rdO e H o.op) then ((opV cx e H R o.op).one).bind fun v => runD cx N ops R chk T m0 r ((d, v) :: e) H g else .stuck 283
        | .ask s x want => .ite (x == want)
            (bif !chk || okRd T m0 js (rdO ((s, .v (.c (.kb want))) :: e) H o.op) then ((opV cx ((s, .v (.c (.kb want))) :: e) H R o.op).one).bind fun v => runD cx N ops R chk T m0 r ((d, v) :: (s, .v (.c (.kb want))) :: e) H g else .stuck 284)
            (runD cx N ops R chk T m0 r ((d, .und) :: (s, .v (.c (.kb (!want)))) :: e) H g)
        else .stuck 285
  | .one j r, e, H, g => match nth ops j with
    | none => .stuck 286
    | some o => bif dOk N o.dst && !quiet cx o.op then match gdO ops e o with
        | .no => runD cx N ops R chk T m0 r (updO e o.dst .und) H g
        | .yes => (opE cx e H R o.op).bind fun rs => bif !chk || okT T m0 j rs.tch then runD cx N ops R chk T m0 r (updO e o.dst rs.v) rs.H ((j, rs.tch) :: g) else .stuck 287
        | _ => .stuck 288
      else .stuck 289
  | .two j r j' r', e, H, g => .both
      (match nth ops j with
        | none => .stuck 286
        | some o => bif dOk N o.dst && !quiet cx o.op then match gdO ops e o with
            | .no => runD cx N ops R chk T m0 r (updO e o.dst .und) H g
            | .yes => (opE cx e H R o.op).bind fun rs => bif !chk || okT T m0 j rs.tch then runD cx N ops R chk T m0 r (updO e o.dst rs.v) rs.H ((j, rs.tch) :: g) else .stuck 287
            | _ => .stuck 288
          else .stuck 289)
      (match nth ops j' with
        | none => .stuck 286
        | some o => bif dOk N o.dst && !quiet cx o.op then match gdO ops e o with
            | .no => runD cx N ops R chk T m0 r' (updO e o.dst .und) H g
            | .yes => (opE cx e H R o.op).bind fun rs => bif !chk || okT T m0 j' rs.tch then runD cx N ops R chk T m0 r' (updO e o.dst rs.v) rs.H ((j', rs.tch) :: g) else .stuck 287
            | _ => .stuck 288
          else .stuck 289)
def gatherT : Tr (St × Tch) → Tch
  | .ret x => x.2
  | .ite _ t f => gatherT t ++ gatherT f
  | .ass _ t => gatherT t
  | .both t f => gatherT t ++ gatherT f
  | .hyp _ t => gatherT t
  | _ => []
def runDraw (cx : Ctx) (N : Nat) (ops : Array Oper) (R : List Rw) (e : Env) (H : List Bk) : Tr St :=
  let pl := mkPlan cx ops ops.size (Array.replicate ops.size false)
  let T := gatherT (runD cx N ops.toList R false [] (len H) pl e H [])
  bif pl.ok ops ops.size (Array.replicate ops.size false) && noSel ops then (runD cx N ops.toList R true T (len H) pl e H []).bind fun x => .ret x.1 else .stuck 290

/-! ### Code -/
def firstR : Code → Nat
  | .region id _ _ => id
  | .seq a _ => firstR a
  | .cond _ a _ => firstR a
  | .block _ a => firstR a
  | .loop a => firstR a
  | .scope a => firstR a
  | _ => 0
/-- is a code straight on, without effects? -/
def flat (cx : Ctx) : Code → Bool
  | .skip => true
  | .region _ ops draw => !draw && calm cx (len ops.toList) ops.toList
  | .seq a b => flat cx a && flat cx b
  | .cond _ a b => flat cx a && flat cx b
  | _ => false
def dsC : Code → List Nat
  | .region _ ops _ => dsts (len ops.toList) ops.toList
  | .seq a b => dsC a ++ dsC b
  | .cond _ a b => dsC a ++ dsC b
  | _ => []
def asgL (t : Nat) : List Oper → Bool
  | [] => true
  | o :: r => (match o.op with
    | .assign _ => (match o.dst with
      | some d => Nat.ble t d
      | none => true)
    | _ => true) && asgL t r
/-- are all its named slots this one or later ones? -/
def asgC (t : Nat) : Code → Bool
  | .region _ ops _ => asgL t ops.toList
  | .seq a b => asgC t a && asgC t b
  | .cond _ a b => asgC t a && asgC t b
  | _ => true
/-- a short circuit's value, if it is one -/
def joinX (cx : Ctx) (e : Env) (t : Nat) (a b : Code) : Option Bool := match lk e t with
  | some (.v (.c (.b x))) => bif flat cx a && flat cx b && mem t (dsC a ++ dsC b) && asgC t a && asgC t b then some x else none
  | _ => none
def joinO (cx : Ctx) (e : Env) (x : Operand) (a b : Code) : Option (Nat × Bool) := match x with
  | .tmp t => (joinX cx e t a b).map fun x => (t, x)
  | _ => none
def lastX (t : Nat) (y : X × Env × List Bk) : Tr Bool := match y.1 with
  | .nor => lastB t (y.2.1, y.2.2)
  | _ => .stuck 264
def knowX (x : Operand) (b : Bool) (e : Env) : Env := match x with
  | .tmp t => (t, .v (.c (.kb b))) :: e
  | _ => e
def runC (cx : Ctx) (N : Nat) (R : List Rw) : Code → Env → List Bk → Tr (X × Env × List Bk)
  | .skip, e, H => .ret (.nor, e, H)
  | .region _ ops draw, e, H => bif draw then (runDraw cx N ops R e H).bind fun st => .ret (.nor, st.1, st.2) else (runL cx N ops R e H).bind fun st => .ret (.nor, st.1, st.2)
  | .seq a b, e, H => (runC cx N R a e H).bind fun
    | (.nor, e1, H1) => runC cx N R b e1 H1
    | y => .ret y
  | .cond x a b, e, H => match joinO cx e x a b with
    | some (t, x) => (mrgT x ((runC cx N R a ((t, .v (.c (.kb true))) :: e) H).bind (lastX t)) ((runC cx N R b ((t, .v (.c (.kb false))) :: e) H).bind (lastX t))).bind fun z =>
        .ret (.nor, (t, .v (.c (.b z))) :: dropD (t :: (dsC a ++ dsC b)) e, H)
    | none => match evS e x with
    | some (.kb v) => bif v then runC cx N R a e H else runC cx N R b e H
    | some (.b v) => .ite v (runC cx N R a (knowX x true e) H) (runC cx N R b (knowX x false e) H)
    | _ => .stuck 261
  | .block id a, e, H => (runC cx N R a e H).bind fun
    | (.ex n, e1, H1) => bif Nat.beq n id then .ret (.nor, e1, H1) else .ret (.ex n, e1, H1)
    | y => .ret y
  | .loop a, e, H => match cx.lp (firstR a) with
    | some g => g e H R
    | none => .stuck 262
  | .exit id, e, H => .ret (.ex id, e, H)
  | .ret, e, H => .ret (.ret, e, H)
  | _, _, _ => .stuck 263
/-! ### Functions -/
def res1 (cx : Ctx) (e : Env) (H : List Bk) : ResultVar → Option V1
  | .tmp t => match lk e t with
    | some (.v x) => some x
    | _ => none
  | .cell s t => match lk e s, cx.ty.get t with
    | some (.v (.c (.p n o))), some ti => match nth H n with
      | some B => bif ti.ag then (getN B.ss o ti.sz).map .agg else (getC B.ss o).map .c
      | none => none
    | _, _ => none
def resL (cx : Ctx) (e : Env) (H : List Bk) : List ResultVar → Option (List V1)
  | [] => some []
  | r :: rs => match res1 cx e H r, resL cx e H rs with
    | some v, some vs => some (v :: vs)
    | _, _ => none
def resV : List V1 → SV
  | [v] => .v v
  | vs => .tup vs
def argE : Nat → List SV → Env
  | _, [] => []
  | i, v :: r => (i, v) :: argE (i + 1) r
/-- which blocks are left: the first n0, and these -/
def upto : Nat → List Nat
  | 0 => []
  | n + 1 => upto n ++ [n]
/-- the blocks that are kept behind the first n0: those that are reached -/
def kpN (n0 : Nat) (ns : List Nat) (H : List Bk) : List Nat := (reach H 2000 (upto n0 ++ ns) []).filter (fun n => !Nat.blt n n0)
def finB (n0 : Nat) (keep : List Nat) (v : SV) (H : List Bk) : Option (SV × List Bk) :=
  let ns := upto n0 ++ keep
  match pickB H ns with
  | some Bs => bif nodupB ns && (allIn ns (nmV v) && allIn ns (nmBs Bs)) then some (rnV (idx · ns) v, Bs.map (rnB (idx · ns))) else none
  | none => none
def runF (cx : Ctx) (N : Nat) (rs : List ResultVar) (code : Code) (args : List SV) (H : List Bk) (R : List Rw) : Tr (SV × List Bk) :=
  (runC cx N R code (argE 0 args) H).bind fun y => match y.1 with
    | .ex _ => .stuck 270
    | _ => (ofO 272 (resL cx y.2.1 y.2.2 rs)).bind fun vs => ofO 273 (finB (len H) (kpN (len H) (nmV (resV vs)) y.2.2) (resV vs) y.2.2)
/-! ### Loops -/
def selE (e : Env) : List Nat → Option (List SV)
  | [] => some []
  | k :: r => match lk e k, selE e r with
    | some v, some vs => some (v :: vs)
    | _, _ => none
def zipE : List Nat → List SV → Env
  | k :: ks, v :: vs => (k, v) :: zipE ks vs
  | _, _ => []
/-- which blocks are left, and what these slots hold -/
def finE (n0 : Nat) (keep : List Nat) (vs : List SV) (H : List Bk) : Option (List SV × List Bk) :=
  let ns := upto n0 ++ keep
  match pickB H ns with
  | some Bs => bif nodupB ns && (allIn ns (nmA vs) && allIn ns (nmBs Bs)) then some (vs.map (rnV (idx · ns)), Bs.map (rnB (idx · ns))) else none
  | none => none
/-- how many of the first blocks are kept -/
def neO (ne : Nat) (H : List Bk) : Nat := bif Nat.ble ne (len H) then ne else len H
/-- a loop's start: these slots, the blocks that are left -/
def canE (ne : Nat) (ks : List Nat) (e : Env) (H : List Bk) : Option (List SV × List Bk) := (selE e ks).bind fun vs => finE (neO ne H) (kpN (neO ne H) (nmA vs) H) vs H
/-- a round of a loop: its end, these slots, the blocks that are left -/
def rnd (cx : Ctx) (N : Nat) (W : List Rw) (body : Code) (ks : List Nat) (ne : Nat) (e : Env) (H : List Bk) : Tr (X × List SV × List Bk) :=
  (runC cx N W body e H).bind fun y => (ofO 300 (selE y.2.1 ks)).bind fun vs => (ofO 301 (finE (neO ne H) (kpN (neO ne H) (nmA vs) y.2.2) vs y.2.2)).bind fun z => .ret (y.1, z.1, z.2)
end Go.Y
