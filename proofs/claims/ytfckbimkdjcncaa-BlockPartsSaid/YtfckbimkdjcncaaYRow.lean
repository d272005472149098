/- A law's end: arguments, and the row. Generic in the program. -/
import Derived.Test.YtfckbimkdjcncaaYLaw
import Derived.WideKeyArgs
set_option linter.unusedSimpArgs false
set_option linter.unusedVariables false
namespace Go.Y
open Go.Z (Row Blk Kd U32 RowAt)
open Go.ChangeShapes Go.WideShapes Go.RowKit
def isAg (P : Program) (t : TypeId) : Bool := match P.underlying t with
  | some (.struct _) => true
  | some (.array _ _) => true
  | _ => false
def sigs (P : Program) : List TypeId → Option (List (Bool × List It))
  | [] => some []
  | t :: r => match flatI P 20 t, sigs P r with
    | some its, some q => some ((isAg P t, its) :: q)
    | _, _ => none
section
variable {H : Type} {enc : TypeId × Value → H} {P : Program} {w : World} {base : Nat} {spare : Nat → Bool} {held : Bool}
theorem arg_ok {t : TypeId} {its : List It} {v : Value} {d : DataW H} {ps : List MemPlace} {w' : World} {b0 : Nat} (hf : flatI P 20 t = some its) (hd : DataW.Trod enc P w base spare held t v d ps) (hok : Value.okWide P w' .any b0 t v) (i0 : Nat) :
    ∃ x W R, (∀ V r as, InstA (i0 + W.length) r as V → InstA i0 ((isAg P t, its) :: r) (.v x :: as) (W ++ V)) ∧ W.length = R.length ∧ (∀ ρ R0 R1, R0.length = i0 → rep1 ρ (R0 ++ R ++ R1) x v) ∧ (∀ r ∈ R, RowAt w r) ∧ repR W R := by
  obtain ⟨fuel, hd⟩ := hd
  obtain ⟨ss, W, R, p1, p2, p3, p4, p5⟩ := flatI_ok hf hd i0
  have hone : isAg P t = false → v.cells.toList = [v] → (∀ ss W, InstI i0 its ss W → ∃ x, ss = [.one x]) → ∃ x W R, (∀ V r as, InstA (i0 + W.length) r as V → InstA i0 ((isAg P t, its) :: r) (.v x :: as) (W ++ V)) ∧ W.length = R.length ∧ (∀ ρ R0 R1, R0.length = i0 → rep1 ρ (R0 ++ R ++ R1) x v) ∧ (∀ r ∈ R, RowAt w r) ∧ repR W R := fun ha hc hs => by
    obtain ⟨x, rfl⟩ := hs ss W p1
    refine ⟨.c x, W, R, fun V r as h => ?_, p2, fun ρ R0 R1 h0 => ?_, p4, p5⟩
    · rw [ha]; exact .one p1 h
    · have := p3 ρ R0 R1 h0
      rw [hc] at this
      obtain ⟨y, ys, e, h1, h2⟩ := this.2.inv
      cases e
      exact h1
  simp only [flatI] at hf
  split at hf
  · rename_i ht
    cases hf
    obtain ⟨b, rfl⟩ := okWide_bool ht hok
    exact hone (by simp [isAg, ht]) rfl fun ss W h => by cases h with | b t => cases t; exact ⟨_, rfl⟩
  · rename_i k ht
    cases hf
    obtain ⟨n, rfl⟩ := okWide_int ht hok
    exact hone (by simp [isAg, ht]) rfl fun ss W h => by cases h with | i _ t => cases t; exact ⟨_, rfl⟩
  · rename_i ht
    cases hf
    obtain ⟨s, rfl⟩ := okWide_string ht hok
    exact hone (by simp [isAg, ht]) rfl fun ss W h => by cases h with | s _ t => cases t; exact ⟨_, rfl⟩
  · rename_i e ht
    rw [Option.map_eq_some_iff] at hf
    obtain ⟨id, _, rfl⟩ := hf
    obtain ⟨a, len, cap, rfl⟩ := okWide_slice ht hok
    exact hone (by simp [isAg, ht]) rfl fun ss W h => by cases h with | sl _ _ _ t => cases t; exact ⟨_, rfl⟩
  · rename_i n e ht
    simp only [Value.okWide, ht] at hok
    obtain ⟨cs, rfl, _⟩ := hok
    refine ⟨.agg ss, W, R, fun V r as h => ?_, p2, fun ρ R0 R1 h0 => ⟨cs.toList, by simp, p3 ρ R0 R1 h0⟩, p4, p5⟩
    rw [show isAg P t = true by simp [isAg, ht]]
    exact .agg p1 h
  · rename_i fs ht
    simp only [Value.okWide, ht] at hok
    obtain ⟨cs, rfl, _⟩ := hok
    refine ⟨.agg ss, W, R, fun V r as h => ?_, p2, fun ρ R0 R1 h0 => ⟨cs.toList, by simp, p3 ρ R0 R1 h0⟩, p4, p5⟩
    rw [show isAg P t = true by simp [isAg, ht]]
    exact .agg p1 h
  · cases hf
theorem args_ok {w' : World} {b0 : Nat} : ∀ {ts : List TypeId} {sg : List (Bool × List It)} {vs : List Value} {ds : List (DataW H)} {ps : List MemPlace}, sigs P ts = some sg → DataW.TrodAll enc P w base spare held ts vs ds ps →
    (∀ (j : Nat) t v, ts[j]? = some t → vs[j]? = some v → Value.okWide P w' .any b0 t v) → ∀ i0, ∃ as W R, InstA i0 sg as W ∧ W.length = R.length ∧ (∀ ρ R0 R1, R0.length = i0 → A2 (repV ρ (R0 ++ R ++ R1)) as vs) ∧ (∀ r ∈ R, RowAt w r) ∧ repR W R
  | [], sg, vs, ds, ps, hs, hA, _, i0 => by
    simp only [sigs, Option.some.injEq] at hs
    subst hs
    obtain ⟨rfl, rfl, rfl⟩ := trodAll_nil hA
    exact ⟨[], [], [], .nil, rfl, fun _ _ _ _ => .nil, (fun r hr => by cases hr), .nil⟩
  | t :: ts, sg, vs, ds, ps, hs, hA, hok, i0 => by
    simp only [sigs] at hs
    split at hs
    · rename_i its q h1 h2
      cases hs
      obtain ⟨v, vs', d, ds', p, p', rfl, rfl, rfl, h3, h4⟩ := trodAll_cons hA
      obtain ⟨x, W, R, a1, a2, a3, a4, a5⟩ := arg_ok h1 h3 (hok 0 t v rfl rfl) i0
      obtain ⟨as, V, S, b1, b2, b3, b4, b5⟩ := args_ok h2 h4 (fun j t v ht hv => hok (j + 1) t v (by simpa using ht) (by simpa using hv)) (i0 + W.length)
      refine ⟨.v x :: as, W ++ V, R ++ S, a1 V _ as b1, by simp [a2, b2], fun ρ R0 R1 h0 => ?_, fun r hr => (List.mem_append.1 hr).elim (a4 r) (b4 r), a5.app b5⟩
      have e1 := a3 ρ R0 (S ++ R1) h0
      have e2 := b3 ρ (R0 ++ R) R1 (by simp [h0, a2])
      rw [show R0 ++ (R ++ S) ++ R1 = R0 ++ R ++ (S ++ R1) by simp [List.append_assoc]]
      rw [show R0 ++ R ++ S ++ R1 = R0 ++ R ++ (S ++ R1) by simp [List.append_assoc]] at e2
      exact .cons e1 e2
    · cases hs
theorem Keep.below {W W' : World} (h : Z.Keep [] W W') : Below W.heap.size W W' := ⟨h.os, h.tape, h.output, h.size, fun k hk => h.block k hk (by simp)⟩
/-- a law's call -/
theorem law_calls {f : FuncId} {con : Con} {ts : List TypeId} {sg : List (Bool × List It)} (ok : ConOK P f con) (hs : sigs P ts = some sg) (hcon : forA 0 sg fun as W => (con.run as [] W).all fun y => y.1 = .v (.c (.b true)))
    {W0 w' : World} {b0 : Nat} {args : Array Value} {ds : List (DataW H)} {ps : List MemPlace} (hA : DataW.TrodAll enc P W0 base spare held ts args.toList ds ps)
    (hok : ∀ (j : Nat) t v, ts[j]? = some t → args.toList[j]? = some v → Value.okWide P w' .any b0 t v) : Calls P f args W0 fun e W' => e = .returned (.bool true) ∧ Below W0.heap.size W0 W' := by
  obtain ⟨as, W, R, i1, i2, i3, i4, i5⟩ := args_ok hs hA hok 0
  have hc := forA_elim i1 hcon
  have h3 : A2 (repV [] R) as args.toList := by simpa using i3 [] [] [] rfl
  have := ok as [] W _ hc (fun _ B hB => by cases hB) [] R args.toList [] h3 ⟨rfl, .nil⟩ i5 W0 ⟨(fun x hx => by cases hx), (by simp), fun r hr => ⟨i4 r hr, fun x hx => by cases hx⟩⟩
  rw [show args.toList.toArray = args by simp] at this
  refine this.mono fun e W' ⟨v, H', he, ⟨sv, H1, ρ', hk, _, hv, _⟩, hg⟩ => ?_
  simp only at hk
  subst hk
  have hv : v = .bool true := hv
  subst hv
  exact ⟨he, Keep.below hg.keep⟩
theorem trodAll_below (hl : laidOutB P = true) {W W' : World} (hb : Below W.heap.size W W') {sp : Nat → Bool} : ∀ {ts : List TypeId} {vs : List Value} {ds : List (DataW H)} {ps : List MemPlace}, (ts.all fun t => P.readableRec t && decide (t < P.types.size)) = true →
    DataW.TrodAll enc P W 0 (fun _ => true) true ts vs ds ps → (∀ p ∈ ps, p.block < W.heap.size) → (∀ p ∈ ps, sp p.block = true) → DataW.TrodAll enc P W' 0 sp true ts vs ds ps
  | [], _, _, _, _, h, _, _ => by
    obtain ⟨rfl, rfl, rfl⟩ := trodAll_nil h
    exact trodAll_mk0
  | t :: ts, _, _, _, hr, h, hlt, hsp => by
    obtain ⟨v, vs', d, ds', p, p', rfl, rfl, rfl, h3, h4⟩ := trodAll_cons h
    simp only [List.all_cons, Bool.and_eq_true, decide_eq_true_eq] at hr
    exact trodAll_cons_mk (Go.WideElems.Trod_stays hl hr.1.1 hr.1.2 h3 (fun x hx => hb.same (hlt x (List.mem_append_left _ hx))) (fun x hx => hsp x (List.mem_append_left _ hx)))
      (trodAll_below hl hb (by simpa using hr.2) h4 (fun x hx => hlt x (List.mem_append_right _ hx)) (fun x hx => hsp x (List.mem_append_right _ hx)))
theorem shutB {t : TypeId} (ht : P.underlying t = some .bool) (b : Bool) : DataW.Trod enc P w base spare held t (.bool b) (.lit (.bool b)) [] := ⟨1, by simp [DataW.trod, Value.cells, ht]⟩
theorem okB {t : TypeId} (ht : P.underlying t = some .bool) (b : Bool) : Value.okWide P w .any base t (.bool b) := by
  simp [Value.okWide, Cell.okWide, Cell.ok, ht]
/-- what a law leaves behind -/
theorem law_post {fn : Func} {s : ChangeSpec} {W W' : World} {args : Array Value} {ds gs : List (DataW H)} {before : List MemPlace} {tb : TypeId} (hl : laidOutB P = true) (hv : s.vars = []) (hr : (fn.params.toList.all fun t => P.readableRec t && decide (t < P.types.size)) = true)
    (hres : fn.resultTypes = #[tb]) (htb : P.underlying tb = some .bool) (hspec : ∀ d : List (DataW H), d.length = fn.params.toList.length → s.fn H d = { results := [.lit (.bool true)], args := d })
    (hW : DataW.Whole enc P fn.params.toList s.vars false W args.toList ds gs before) (hb : Below W.heap.size W W') : s.post enc P fn false true false false W args (.bool true) W' := by
  have hW0 := hW
  have hlt := fun p hp => hW.lt p hp
  obtain ⟨p, q, hA, hV, rfl, hz, hn⟩ := hW
  rw [hv] at hV
  obtain ⟨rfl, rfl⟩ : gs = [] ∧ q = [] := by cases gs <;> simp_all [DataW.TrodVars]
  have hlen : ∀ {ts : List TypeId} {vs : List Value} {ds : List (DataW H)} {ps : List MemPlace}, DataW.TrodAll enc P W 0 (fun _ => true) true ts vs ds ps → ds.length = ts.length := by
    intro ts
    induction ts with
    | nil => intro vs ds ps h; obtain ⟨_, rfl, _⟩ := trodAll_nil h; rfl
    | cons t ts ih =>
      intro vs ds ps h
      obtain ⟨v, vs', d, ds', p, p', rfl, rfl, rfl, _, h4⟩ := trodAll_cons h
      simp [ih h4]
  have hs := hspec (ds ++ []) (by rw [List.append_nil]; exact hlen hA)
  simp only [List.append_nil] at hlt hs hW0 ⊢
  refine ⟨ds, [], p, [], p, [], hW0, ?_, ?_, ?_, World.keptBut_mono (fun x hx => ⟨hx, .inr (.inl hx)⟩) (hb.frame (· ∈ p)), fun h => by cases h⟩
  · simp only [List.append_nil, hs]
    rw [hres]
    exact trodAll_cons_mk (shutB htb true) trodAll_mk0
  · simp only [List.append_nil, hs]
    exact trodAll_below hl hb hr hA hlt fun x hx => by simpa using hlt x hx
  · simp only [List.append_nil, hs, hv]
    rfl
end
end Go.Y
namespace Go.Y
theorem wf0 {x : Int} (h : wfSh 0 x) : Z.U32 x := h (.i .u32 x) List.mem_cons_self
theorem wf5 {x : Mic} (h : wfSh 5 x) : Z.U32 x.i := h (.i .u32 x.i) (by simp [Sh.f])
theorem wfRegs {r : List Int} (hl : r.length = 32) (h : ∀ x ∈ r, wfSh 0 x) : Z.Regs r := ⟨hl, fun x hx => wf0 (h x hx)⟩
theorem wfSub {α : Type} {p : α → Prop} {l : List α} (h : ∀ x ∈ l, p x) (o n : Nat) : ∀ x ∈ (l.drop o).take n, p x := fun x hx => h x (List.mem_of_mem_drop (List.mem_of_mem_take hx))
end Go.Y
