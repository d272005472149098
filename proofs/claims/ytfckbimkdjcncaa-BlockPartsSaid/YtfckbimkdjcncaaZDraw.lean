/- Regions that draw their order: effects in their order, all else taken first. Generic in the program. -/
import Derived.Test.YtfckbimkdjcncaaZAgg
import Derived.Deep.Quiet
set_option linter.unusedSimpArgs false
set_option linter.unusedVariables false
namespace Go.Z
theorem Keep.mono {S S' : List Nat} {w w' : World} (h : Keep S w w') (hs : ∀ k, k ∈ S → k ∈ S') : Keep S' w w' :=
  ⟨h.size, fun k hk hn => h.block k hk (fun hm => hn (hs k hm)), h.os, h.tape, h.output⟩
theorem Keep.ext {S : List Nat} {w w' : World} (h : Keep [] w w') : Keep S w w' := h.mono (fun k hk => by cases hk)
theorem Good.ext {c : Cx} {w w' : World} {H : List Blk} (h : Good c w H) (hk : Keep [] w w') : Good c w' H :=
  ⟨fun x hx => (hk.block _ (h.lt hx) (by simp)).trans (h.has x hx), h.nodup, h.mine, h.own, h.keep.trans hk.ext, fun r hr => ⟨(h.rows r hr).1.same fun hne => hk.block _ ((h.rows r hr).1.lt hne) (by simp), (h.rows r hr).2⟩⟩
/-- what an operation of a drawn region may turn: these blocks, and, if it says so, those that are made in the region -/
structure Tn where
  l : Nat → List Nat
  nw : Nat → Bool
  n0 : Nat
def Tn.at (T : Tn) (j k : Nat) : Prop := k ∈ T.l j ∨ (T.nw j = true ∧ T.n0 ≤ k)
structure KeepP (U : Nat → Prop) (w w' : World) : Prop where
  size : w.heap.size ≤ w'.heap.size
  block : ∀ k, k < w.heap.size → ¬ U k → w'.heap[k]? = w.heap[k]?
  os : w'.os = w.os
  tape : w'.tape = w.tape
  output : w'.output = w.output
theorem Keep.toP {S : List Nat} {U : Nat → Prop} {w w' : World} (h : Keep S w w') (hs : ∀ k, k ∈ S → U k) : KeepP U w w' := ⟨h.size, fun k hk hn => h.block k hk (fun hm => hn (hs k hm)), h.os, h.tape, h.output⟩
theorem KeepP.trans {U : Nat → Prop} {a b c : World} (h : KeepP U a b) (k : KeepP U b c) : KeepP U a c :=
  ⟨Nat.le_trans h.size k.size, fun i hi hs => (k.block i (Nat.lt_of_lt_of_le hi h.size) hs).trans (h.block i hi hs), k.os.trans h.os, k.tape.trans h.tape, k.output.trans h.output⟩
theorem KeepP.mono {U U' : Nat → Prop} {w w' : World} (h : KeepP U w w') (hs : ∀ k, U k → U' k) : KeepP U' w w' := ⟨h.size, fun k hk hn => h.block k hk (fun hm => hn (hs k hm)), h.os, h.tape, h.output⟩
theorem KeepP.toK {U : Nat → Prop} {w w' : World} (h : KeepP U w w') (hU : ∀ k, ¬ U k) : Keep [] w w' := ⟨h.size, fun k hk _ => h.block k hk (hU k), h.os, h.tape, h.output⟩
section
variable {P : Program}
def runsTo (P : Program) (o : Oper) (a : Act) (w : World) (K : Value → World → Prop) : Prop :=
  match (execOp a.eval o).run P w with
  | .ok (.value v) w' => K v w'
  | .ok .skip w' => K undef w'
  | .ok (.enter f args) w' => Calls P f args w' (fun e w'' => ∃ v, e = .returned v ∧ K v w'')
  | .ok (.row row args) w' => Rows P row args w' K
  | _ => False
def stepO (P : Program) (ops : Array Oper) (o : Oper) (a : Act) (w : World) (K : Value → World → Prop) : Prop :=
  if Region.wanted o (yielded ops a.tmps) then runsTo P o a w K else K undef w
theorem runsTo.mono {o : Oper} {a : Act} {w : World} {K K' : Value → World → Prop} (h : runsTo P o a w K) (hk : ∀ v w', K v w' → K' v w') : runsTo P o a w K' := by
  unfold runsTo at *
  split <;> simp_all
  · rename_i f args w' _
    exact h.mono fun e w'' ⟨v, he, hv⟩ => ⟨v, he, hk _ _ hv⟩
  · exact h.mono hk
theorem stepO.mono {ops : Array Oper} {o : Oper} {a : Act} {w : World} {K K' : Value → World → Prop} (h : stepO P ops o a w K) (hk : ∀ v w', K v w' → K' v w') : stepO P ops o a w K' := by
  unfold stepO at *
  split
  · rename_i hw; rw [if_pos hw] at h; exact h.mono hk
  · rename_i hw; rw [if_neg hw] at h; exact hk _ _ h
theorem stepO_put {ops : Array Oper} {o : Oper} (hs : ∀ cs b, o.op ≠ .select cs b) {a : Act} {dst : Option Nat} {v : Value} (h : ∀ d, dst = some d → d ∉ o.looksAt ops) {w : World} {K : Value → World → Prop} :
    stepO P ops o (a.put dst v) w K ↔ stepO P ops o a w K := by
  unfold stepO runsTo
  rw [wanted_put o a dst v h, execOp_put o hs a dst v h]
/-- out of a law on one operation -/
theorem stepO_of_list {ops : Array Oper} {o : Oper} {a : Act} {w : World} {J : Act → World → Prop} (hJ : ∀ a w, J a w → a.defers = []) (h : wpList P ops (Exit.then J fun _ _ _ => False) [o] a w) :
    stepO P ops o a w (fun v w' => J (a.put o.dst v) w') := by
  have hlo : ¬ LetsOut (Exit.then J fun _ _ _ => False) := fun ⟨_, _, hx⟩ => hx
  unfold stepO
  unfold wpList at h
  split
  · rename_i hw
    rw [if_pos hw] at h
    rcases h with h | ⟨_, h⟩
    · unfold Oper.wp at h
      unfold runsTo
      generalize (execOp a.eval o).run P w = r at h
      cases r with
      | ok n w' =>
        cases n <;> simp only [Oper.upon] at h ⊢ <;> try exact h
        case defer dd =>
          have h1 := hJ _ _ h
          cases hd : o.dst <;> simp [Act.put, hd] at h1
        case enter f args =>
          refine h.mono fun en w'' hq => ?_
          cases en with
          | returned v => exact ⟨v, rfl, hq⟩
          | panicked ch => exact hq.elim
          | outgrown => exact absurd hq hlo
      | halt x w' =>
        cases x <;> simp only [Oper.upon] at h ⊢ <;> exact h
    · exact absurd h hlo
  · rename_i hw
    rw [if_neg hw] at h
    exact h
variable {ops : Array Oper} {K : Act → World → Prop} {S : Tn}
def wpX (P : Program) (ops : Array Oper) (K : Act → World → Prop) (S : Tn) : Nat → Array Bool → Act → World → Prop
  | 0, listed, a, w => ∀ w0, Keep [] w w0 → Region.ready .any ops listed = [] ∧ K a w0
  | n + 1, listed, a, w => ∀ w0, Keep [] w w0 → (Region.ready .any ops listed = [] → K a w0) ∧
    ∀ i ∈ Region.ready .any ops listed, ∃ o, ops[i]? = some o ∧ stepO P ops o a w0 (fun v w' => KeepP (S.at i) w0 w' ∧ wpX P ops K S n (listed.setIfInBounds i true) (a.put o.dst v) w')
theorem wpOp_of_stepO {Q : Exit → Act → World → Prop} {i : Nat} {o : Oper} (hi : ops[i]? = some o) {a : Act} {w : World} {K' : Act → World → Prop} (h : stepO P ops o a w (fun v w' => K' (a.put o.dst v) w')) : wpOp P ops Q i K' a w := by
  unfold wpOp
  simp only [hi]
  unfold stepO at h
  split
  · rename_i hw
    rw [if_pos hw] at h
    refine .inl ?_
    unfold Oper.wp
    unfold runsTo at h
    generalize (execOp a.eval o).run P w = r at h
    cases r with
    | ok n w' =>
      cases n <;> simp only [Oper.upon] at h ⊢ <;> try exact h
      refine h.mono fun en w'' hq => ?_
      obtain ⟨v, rfl, hv⟩ := hq
      exact hv
    | halt x w' => cases x <;> simp only at h
  · rename_i hw
    rw [if_neg hw] at h
    exact h
theorem wpAny_of_wpX {Q : Exit → Act → World → Prop} : ∀ (n : Nat) (listed : Array Bool) (a : Act) (w : World), wpX P ops (Q .normal) S n listed a w → wpAny P .any ops Q n listed a w
  | 0, _, _, w, h => h w (Keep.refl _ _)
  | n + 1, listed, a, w, h => ⟨(h w (Keep.refl _ _)).1, fun i hi => by
    obtain ⟨o, ho, hs⟩ := (h w (Keep.refl _ _)).2 i hi
    exact wpOp_of_stepO ho (hs.mono fun v w' hx => wpAny_of_wpX n _ _ _ hx.2)⟩
theorem wpX.ext {n : Nat} {listed : Array Bool} {a : Act} {w w' : World} (h : wpX P ops K S n listed a w) (hk : Keep [] w w') : wpX P ops K S n listed a w' := by
  cases n with
  | zero => exact fun w0 h0 => h w0 (hk.trans h0)
  | succ n => exact fun w0 h0 => h w0 (hk.trans h0)
theorem beq_ne {a b : Nat} (h : a ≠ b) : Nat.beq a b = false := by
  cases hb : Nat.beq a b with
  | true => exact absurd (Nat.eq_of_beq_eq_true hb) h
  | false => rfl
/-- who may come up before i does -/
def unord (ops : Array Oper) (listed : Array Bool) (i : Nat) : List Nat :=
  (List.range ops.size).filter fun j => !(Nat.beq j i) && !(listed.getD j true) && (match ops[j]? with | some oj => oj.after.all (fun e => !(Region.binds .any e) || !(Nat.beq e.on i)) | none => false)
def freeB (ops : Array Oper) (listed : Array Bool) (i : Nat) : Bool :=
  match ops[i]? with
  | some oi => (unord ops listed i).all fun j => match ops[j]? with | some oj => oi.apart ops oj | none => true
  | none => false
theorem mem_unord {listed : Array Bool} {i j : Nat} {oj : Oper} (hj : ops[j]? = some oj) (hne : j ≠ i) (hl : listed.getD j true = false) (ha : ∀ e ∈ oj.after, Region.binds .any e = true → e.on ≠ i) : j ∈ unord ops listed i := by
  have hlt : j < ops.size := (Array.getElem?_eq_some_iff.1 hj).1
  refine List.mem_filter.2 ⟨List.mem_range.2 hlt, ?_⟩
  simp only [hj, hl, Bool.not_false, Bool.and_true, Bool.and_eq_true, Bool.not_eq_true']
  refine ⟨beq_ne hne, ?_⟩
  rw [Array.all_eq_true']
  intro e he
  cases hb : Region.binds .any e with
  | false => simp
  | true => simp [beq_ne (ha e he hb)]
theorem wpX_first {i : Nat} {oi : Oper} {v : Value} {U : Nat → Prop} (hi : ops[i]? = some oi) (hsel : ∀ (j : Nat) (o : Oper) cs b, ops[j]? = some o → o.op ≠ .select cs b) :
    ∀ (fuel : Nat) (listed : Array Bool) (a : Act) (w : World),
      (∀ j oj, ops[j]? = some oj → j ≠ i → listed.getD j true = false → (∀ e ∈ oj.after, Region.binds .any e = true → e.on ≠ i) → oi.apart ops oj = true ∧ ∀ k, S.at j k → U k) →
      i ∈ Region.ready .any ops listed → (∀ w', KeepP U w w' → stepO P ops oi a w' (fun v' w'' => v' = v ∧ Keep [] w' w'')) →
      wpX P ops K S fuel (listed.setIfInBounds i true) (a.put oi.dst v) w → wpX P ops K S (fuel + 1) listed a w := by
  intro fuel
  induction fuel with
  | zero =>
    intro listed a w _ hr hY H w0 hk0
    refine ⟨fun h => (by rw [h] at hr; cases hr), fun j hj => ?_⟩
    by_cases hji : j = i
    · subst hji
      refine ⟨oi, hi, (hY w0 (hk0.toP (fun _ h => by cases h))).mono fun v' w'' hx => ?_⟩
      obtain ⟨rfl, hk⟩ := hx
      exact ⟨hk.toP (fun _ h => by cases h), H.ext (hk0.trans hk)⟩
    · have := ready_mono hj hji
      rw [(H w0 hk0).1] at this
      cases this
  | succ fuel ih =>
    intro listed a w hfree hr hY H w0 hk0
    refine ⟨fun h => (by rw [h] at hr; cases hr), fun j hj => ?_⟩
    by_cases hji : j = i
    · subst hji
      refine ⟨oi, hi, (hY w0 (hk0.toP (fun _ h => by cases h))).mono fun v' w'' hx => ?_⟩
      obtain ⟨rfl, hk⟩ := hx
      exact ⟨hk.toP (fun _ h => by cases h), H.ext (hk0.trans hk)⟩
    · have hjr := ready_mono hj hji
      obtain ⟨oj, hoj, hs⟩ := (H w0 hk0).2 j hjr
      obtain ⟨hul, oj', hoj', hall⟩ := mem_ready.1 hj
      have : oj' = oj := Option.some.inj (hoj'.symm.trans hoj)
      subst this
      have hiul := (mem_ready.1 hr).1
      have hnw : ∀ e ∈ oj'.after, Region.binds .any e = true → e.on ≠ i := fun e he hb heq => by
        have h1 := hall e he hb
        rw [heq] at h1
        have hlt : i < listed.size ∨ listed.size ≤ i := Nat.lt_or_ge _ _
        rcases hlt with hlt | hge
        · simp [hlt] at h1 hiul
          rw [h1] at hiul
          cases hiul
        · simp [Array.getElem?_eq_none hge] at hiul
      obtain ⟨hap, hSU⟩ := hfree j oj' hoj hji hul hnw
      obtain ⟨h1, h2, h3⟩ := Oper.apart_spec hap
      refine ⟨oj', hoj, ((stepO_put (hsel j oj' · · hoj) h1).1 hs).mono fun u w' hx => ?_⟩
      obtain ⟨hkj, hx⟩ := hx
      refine ⟨hkj, ih _ _ _ (fun j2 o2 ho2 hne2 hl2 ha2 => hfree j2 o2 ho2 hne2 ?_ ha2) ?_ (fun w'' hk'' => ?_) ?_⟩
      · by_cases hjj : j = j2
        · subst hjj; exact hul
        · rwa [getD_set_ne true hjj] at hl2
      · exact ready_mono hr (fun e => hji e.symm)
      · exact (stepO_put (hsel i oi · · hi) h3).2 (hY w'' (((hk0.toP (fun _ h => by cases h)).trans (hkj.mono hSU)).trans hk''))
      · rw [Act.put_comm a u v (fun d hd hd' => h2 d hd' hd)]
        have hcomm : (listed.setIfInBounds j true).setIfInBounds i true = (listed.setIfInBounds i true).setIfInBounds j true := Array.setIfInBounds_comm _ _ (fun e => hji e)
        rw [hcomm]
        exact hx
theorem mem_unord_iff {listed : Array Bool} {i j : Nat} (h : freeB ops listed i = true) {oi oj : Oper} (hi : ops[i]? = some oi) (hj : ops[j]? = some oj) (hu : j ∈ unord ops listed i) : oi.apart ops oj = true := by
  unfold freeB at h
  simp only [hi, List.all_eq_true] at h
  have := h j hu
  simpa [hj] using this
def noSel (ops : Array Oper) : Bool := Region.noSelect ops
end
section
variable {P : Program} {c : Cx} {ops : Array Oper} {K : Act → World → Prop} {S : Tn} {N : Nat} {e : Env} {H : List Blk}
def TD0 (P : Program) (c : Cx) (ops : Array Oper) (K : Act → World → Prop) (S : Tn) (N : Nat) (fuel : Nat) (listed : Array Bool) (e : Env) (H : List Blk) : Prop :=
  ∀ a w, Fits N a e → Good c w H → S.n0 ≤ w.heap.size → wpX P ops K S fuel listed a w
/-- the order in which a drawn region's operations are taken; its check runs once -/
inductive Plan where
  | fin
  | take (i : Nat) (js : List Nat) (r : Plan)
  | one (j : Nat) (r : Plan)
  | two (j : Nat) (r : Plan) (j' : Nat) (r' : Plan)
def eqL : List Nat → List Nat → Bool
  | [], [] => true
  | x :: r, y :: s => Nat.beq x y && eqL r s
  | _, _ => false
theorem eqL_eq : ∀ {a b : List Nat}, eqL a b = true → a = b
  | [], [], _ => rfl
  | [], _ :: _, h => by cases h
  | _ :: _, [], h => by cases h
  | x :: r, y :: s, h => by
    simp only [eqL, Bool.and_eq_true] at h
    rw [Nat.eq_of_beq_eq_true h.1, eqL_eq h.2]
def inL (i : Nat) : List Nat → Bool
  | [] => false
  | x :: r => Nat.beq x i || inL i r
theorem inL_mem {i : Nat} : ∀ {l : List Nat}, inL i l = true → i ∈ l
  | [], h => by cases h
  | x :: r, h => by
    simp only [inL, Bool.or_eq_true] at h
    rcases h with h | h
    · rw [Nat.eq_of_beq_eq_true h]; exact List.mem_cons_self
    · exact List.mem_cons_of_mem _ (inL_mem h)
def Plan.ok (ops : Array Oper) : Plan → Nat → Array Bool → Bool
  | .fin, _, l => eqL (Region.ready .any ops l) []
  | .take _ _ _, 0, _ => false
  | .take i js r, n + 1, l => inL i (Region.ready .any ops l) && (freeB ops l i && (eqL (unord ops l i) js && r.ok ops n (l.setIfInBounds i true)))
  | .one _ _, 0, _ => false
  | .one j r, n + 1, l => eqL (Region.ready .any ops l) [j] && r.ok ops n (l.setIfInBounds j true)
  | .two _ _ _ _, 0, _ => false
  | .two j r j' r', n + 1, l => eqL (Region.ready .any ops l) [j, j'] && (r.ok ops n (l.setIfInBounds j true) && r'.ok ops n (l.setIfInBounds j' true))
def TD (P : Program) (c : Cx) (ops : Array Oper) (K : Act → World → Prop) (S : Tn) (N : Nat) (pl : Plan) (e : Env) (H : List Blk) : Prop :=
  ∀ fuel listed, pl.ok ops fuel listed = true → noSel ops = true → TD0 P c ops K S N fuel listed e H
theorem TC.draw {Q : Exit → Act → World → Prop} {id : Nat} (n : Nat) (S : Nat → Tn) (pl : Plan) (hm : P.follows .mixedOrders = true) (hok : (noSel ops && pl.ok ops n (Array.replicate n false)) = true) (hn : ops.size = n) (hS : ∀ n0, (S n0).n0 = n0)
    (h : ∀ n0, (∀ x ∈ H, x.b < n0) → TD P c ops (Q .normal) (S n0) N pl e H) : TC P c Q N (.region id ops true) e H := by
  simp only [Bool.and_eq_true] at hok
  exact fun a w ha hw => wp_region_any hm (wpAny_of_wpX _ _ _ _ (by rw [hn]; exact h _ (fun x hx => (hw.drawn _).lt hx) n _ hok.2 hok.1 a _ ha (hw.drawn _) (Nat.le_of_eq (hS _))))
theorem TD0.done {fuel : Nat} {listed : Array Bool} (hr : Region.ready .any ops listed = []) (h : ∀ a w, Fits N a e → Good c w H → K a w) : TD0 P c ops K S N fuel listed e H := fun a w ha hw _ => by
  cases fuel with
  | zero => exact fun w0 hk => ⟨hr, h a w0 ha (hw.ext hk)⟩
  | succ n => exact fun w0 hk => ⟨fun _ => h a w0 ha (hw.ext hk), fun i hi => by rw [hr] at hi; cases hi⟩
theorem TD.then {Q : Exit → Act → World → Prop} {nx : Code} (h : TC P c Q N nx e H) :
    TD P c ops ((Exit.then (fun a w => nx.wp P Q a w) Q) .normal) S N .fin e H := fun _ _ hok _ => TD0.done (eqL_eq hok) h
theorem TD.end_ {Q : Exit → Act → World → Prop} (h : TE c Q N .normal e H) : TD P c ops (Q .normal) S N .fin e H := fun _ _ hok _ => TD0.done (eqL_eq hok) h
def ro (H : List Blk) : List Blk := match H with
  | [] => []
  | x :: r => { x with wr := false } :: ro r
theorem mem_ro : ∀ {H : List Blk} {x : Blk}, x ∈ ro H → ∃ y ∈ H, x = { y with wr := false }
  | [], _, h => by cases h
  | y :: r, x, h => by
    simp only [ro, List.mem_cons] at h
    rcases h with rfl | h
    · exact ⟨y, List.mem_cons_self, rfl⟩
    · obtain ⟨z, hz, e⟩ := mem_ro h
      exact ⟨z, List.mem_cons_of_mem _ hz, e⟩
theorem ro_b : ∀ (H : List Blk), (ro H).map Blk.b = H.map Blk.b
  | [] => rfl
  | y :: r => by simp [ro, ro_b r]
theorem Good.ro {w : World} (h : Good c w H) : Good ⟨w, [], H.map Blk.b, c.R⟩ w (Z.ro H) where
  has := fun x hx => by
    obtain ⟨y, hy, rfl⟩ := mem_ro hx
    exact h.has y hy
  nodup := by rw [ro_b]; exact h.nodup
  mine := fun x hx hwr => by
    obtain ⟨y, _, rfl⟩ := mem_ro hx
    cases hwr
  own := fun x hx => by
    obtain ⟨y, hy, rfl⟩ := mem_ro hx
    exact .inr (List.mem_map.2 ⟨y, hy, rfl⟩)
  keep := Keep.refl _ _
  rows := fun r hr => ⟨(h.rows r hr).1, fun x hx hwr => by
    obtain ⟨y, _, rfl⟩ := mem_ro hx
    cases hwr⟩
theorem Good.nil (w : World) : Good ⟨w, [], [], []⟩ w [] where
  has := fun _ hx => by cases hx
  nodup := by simp
  mine := fun _ hx => by cases hx
  own := fun _ hx => by cases hx
  keep := Keep.refl _ _
  rows := fun _ hr => by cases hr
theorem Good.roU {w w' : World} {U : Nat → Prop} (h : Good c w H) (hk : KeepP U w w') (hU : ∀ x ∈ H, ¬ U x.b) : Good ⟨w', [], H.map Blk.b, []⟩ w' (Z.ro H) where
  has := fun x hx => by
    obtain ⟨y, hy, rfl⟩ := mem_ro hx
    exact (hk.block _ (h.lt hy) (hU y hy)).trans (h.has y hy)
  nodup := by rw [ro_b]; exact h.nodup
  mine := fun x hx hwr => by
    obtain ⟨y, _, rfl⟩ := mem_ro hx
    cases hwr
  own := fun x hx => by
    obtain ⟨y, hy, rfl⟩ := mem_ro hx
    exact .inr (List.mem_map.2 ⟨y, hy, rfl⟩)
  keep := Keep.refl _ _
  rows := fun _ hr => by cases hr
def AtQ (c : Cx) (N : Nat) (e : Env) (H : List Blk) : Exit → Act → World → Prop := Exit.then (AtE c N e H) fun _ _ _ => False
theorem TL.hitQ {o : Array Oper} : TL P c o (AtQ c N e H) N [] e H := fun _ _ ha hw => ⟨ha, hw⟩
theorem put_val {a : Act} {d : Nat} {v v' : Value} (hd : Nat.blt d N = true) (h : Fits N (a.put (some d) v') (upd e d v)) (ha : Fits N a e) : v' = v := by
  have h1 := h.at_ d v (lk_upd_eq e d v)
  have hdN : d < N := by simpa [Nat.blt_eq] using hd
  simpa [Act.put, ha.size, hdN] using h1
theorem take_ok {i : Nat} {js : List Nat} {r : Plan} {fuel : Nat} {listed : Array Bool} (h : (Plan.take i js r).ok ops fuel listed = true) :
    ∃ n, fuel = n + 1 ∧ i ∈ Region.ready .any ops listed ∧ freeB ops listed i = true ∧ unord ops listed i = js ∧ r.ok ops n (listed.setIfInBounds i true) = true := by
  cases fuel with
  | zero => simp [Plan.ok] at h
  | succ n =>
    simp only [Plan.ok, Bool.and_eq_true] at h
    exact ⟨n, rfl, inL_mem h.1, h.2.1, eqL_eq h.2.2.1, h.2.2.2⟩
/-- reads, quiet calls: no effect is pending that it does not wait for, or none that turns a block -/
theorem TD.take {r : Plan} {i : Nat} {js : List Nat} {o : Oper} {d : Nat} {v : Value} (hi : ops[i]? = some o) (hdst : o.dst = some d) (hd : Nat.blt d N = true)
    (hU : js.flatMap S.l = []) (hN : js.any S.nw = false) (hop : ∀ c', c'.R = c.R → TL P c' ops (AtQ c' N (upd e d v) (ro H)) N [o] e (ro H))
    (h : TD P c ops K S N r (upd e d v) H) : TD P c ops K S N (.take i js r) e H := fun fuel listed hok hsel a w ha hw hn0 => by
  obtain ⟨fuel, rfl, hir, hf, hjs, hok2⟩ := take_ok hok
  refine wpX_first (U := fun _ => False) (v := v) hi (Region.noSelect_spec hsel) fuel listed a w (fun j oj hj hne hl hall => ?_) hir (fun w' hk => ?_) ?_
  · have hm := mem_unord (ops := ops) hj hne hl hall
    refine ⟨mem_unord_iff hf hi hj hm, fun k hk => ?_⟩
    rw [hjs] at hm
    rcases hk with hk | hk
    · have := List.mem_flatMap.2 ⟨j, hm, hk⟩
      rw [hU] at this
      cases this
    · have := List.any_eq_false.1 hN j hm
      exact this hk.1
  · have hg := (hw.ext (hk.toK fun _ h => h)).ro
    have := stepO_of_list (fun a w hx => hx.1.defers) (hop ⟨w', [], H.map Blk.b, c.R⟩ rfl a w' ha hg)
    rw [hdst] at this
    exact this.mono fun v' w'' hx => ⟨put_val hd hx.1 ha, hx.2.keep⟩
  · rw [hdst]
    exact h _ _ hok2 hsel _ _ (ha.put v hd) hw hn0
/-- no memory in it -/
theorem TD.pure {r : Plan} {i : Nat} {js : List Nat} {o : Oper} {d : Nat} {v : Value} (hi : ops[i]? = some o) (hdst : o.dst = some d) (hd : Nat.blt d N = true)
    (hop : ∀ c', TL P c' ops (AtQ c' N (upd e d v) []) N [o] e [])
    (h : TD P c ops K S N r (upd e d v) H) : TD P c ops K S N (.take i js r) e H := fun fuel listed hok hsel a w ha hw hn0 => by
  obtain ⟨fuel, rfl, hir, hf, hjs, hok2⟩ := take_ok hok
  refine wpX_first (U := fun k => ∃ j ∈ unord ops listed i, S.at j k) (v := v) hi (Region.noSelect_spec hsel) fuel listed a w (fun j oj hj hne hl hall => ?_) hir (fun w' _ => ?_) ?_
  · have hm := mem_unord (ops := ops) hj hne hl hall
    exact ⟨mem_unord_iff hf hi hj hm, fun k hk => ⟨j, hm, hk⟩⟩
  · have hg := Good.nil w'
    have := stepO_of_list (fun a w hx => hx.1.defers) (hop _ a w' ha hg)
    rw [hdst] at this
    exact this.mono fun v' w'' hx => ⟨put_val hd hx.1 ha, hx.2.keep⟩
  · rw [hdst]
    exact h _ _ hok2 hsel _ _ (ha.put v hd) hw hn0
/-- reads of blocks that no pending effect turns -/
theorem TD.takeU {r : Plan} {i : Nat} {js : List Nat} {o : Oper} {d : Nat} {v : Value} (m : List Bool) {Hs : List Blk} (hi : ops[i]? = some o) (hdst : o.dst = some d) (hd : Nat.blt d N = true)
    (hm : maskB m H = Hs) (hU : ∀ w, Good c w H → ∀ x ∈ Hs, ∀ j ∈ js, ¬ S.at j x.b) (hop : ∀ c', TL P c' ops (AtQ c' N (upd e d v) (ro Hs)) N [o] e (ro Hs))
    (h : TD P c ops K S N r (upd e d v) H) : TD P c ops K S N (.take i js r) e H := fun fuel listed hok hsel a w ha hw hn0 => by
  obtain ⟨fuel, rfl, hir, hf, hjs, hok2⟩ := take_ok hok
  subst hjs
  refine wpX_first (U := fun k => ∃ j ∈ unord ops listed i, S.at j k) (v := v) hi (Region.noSelect_spec hsel) fuel listed a w (fun j oj hj hne hl hall => ?_) hir (fun w' hk => ?_) ?_
  · have hm := mem_unord (ops := ops) hj hne hl hall
    exact ⟨mem_unord_iff hf hi hj hm, fun k hk => ⟨j, hm, hk⟩⟩
  · have hws := hw.heap_of (hm ▸ maskB_sub m H)
    have hg := hws.roU hk (fun x hx ⟨j, hj, h⟩ => hU w hw x hx j hj h)
    have := stepO_of_list (fun a w hx => hx.1.defers) (hop _ a w' ha hg)
    rw [hdst] at this
    exact this.mono fun v' w'' hx => ⟨put_val hd hx.1 ha, hx.2.keep⟩
  · rw [hdst]
    exact h _ _ hok2 hsel _ _ (ha.put v hd) hw hn0
/-- one step of an effect, a call, a new block: what is owed of it -/
def TS (P : Program) (c : Cx) (ops : Array Oper) (K : Act → World → Prop) (S : Tn) (N : Nat) (j : Nat) (r : Plan) (e : Env) (H : List Blk) : Prop :=
  ∃ o, ops[j]? = some o ∧ ∀ a w, Fits N a e → Good c w H → S.n0 ≤ w.heap.size → stepO P ops o a w (fun v w' => KeepP (S.at j) w w' ∧ ∀ fuel listed, r.ok ops fuel listed = true → noSel ops = true → wpX P ops K S fuel listed (a.put o.dst v) w')
theorem TD.one {r : Plan} {j : Nat} (h : TS P c ops K S N j r e H) : TD P c ops K S N (.one j r) e H := fun fuel listed hok hsel a w ha hw hn0 => by
  cases fuel with
  | zero => simp [Plan.ok] at hok
  | succ fuel =>
  simp only [Plan.ok, Bool.and_eq_true] at hok
  have hr := eqL_eq hok.1
  intro w0 hk
  refine ⟨fun h0 => (by rw [hr] at h0; cases h0), fun i hi => ?_⟩
  rw [hr, List.mem_singleton] at hi
  subst hi
  obtain ⟨o, ho, hs⟩ := h
  exact ⟨o, ho, (hs a w0 ha (hw.ext hk) (Nat.le_trans hn0 hk.size)).mono fun v w' hx => ⟨hx.1, hx.2 _ _ hok.2 hsel⟩⟩
theorem TD.two {r r' : Plan} {j j' : Nat} (h : TS P c ops K S N j r e H) (h' : TS P c ops K S N j' r' e H) : TD P c ops K S N (.two j r j' r') e H := fun fuel listed hok hsel a w ha hw hn0 => by
  cases fuel with
  | zero => simp [Plan.ok] at hok
  | succ fuel =>
  simp only [Plan.ok, Bool.and_eq_true] at hok
  have hr := eqL_eq hok.1
  intro w0 hk
  refine ⟨fun h0 => (by rw [hr] at h0; cases h0), fun i hi => ?_⟩
  rw [hr] at hi
  simp only [List.mem_cons, List.not_mem_nil, or_false] at hi
  rcases hi with rfl | rfl
  · obtain ⟨o, ho, hs⟩ := h
    exact ⟨o, ho, (hs a w0 ha (hw.ext hk) (Nat.le_trans hn0 hk.size)).mono fun v w' hx => ⟨hx.1, hx.2 _ _ hok.2.1 hsel⟩⟩
  · obtain ⟨o, ho, hs⟩ := h'
    exact ⟨o, ho, (hs a w0 ha (hw.ext hk) (Nat.le_trans hn0 hk.size)).mono fun v w' hx => ⟨hx.1, hx.2 _ _ hok.2.2 hsel⟩⟩
end
end Go.Z
