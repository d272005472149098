/- Contracts, calls, results, loops. Generic in the program. -/
import Derived.Test.YtfckbimkdjcncaaZMem
set_option linter.unusedSimpArgs false
set_option linter.unusedVariables false
namespace Go.Z
def wids (H : List Blk) : List Nat := (H.filter Blk.wr).map Blk.b
/-- what a callee finds -/
structure Pre (w : World) (H : List Blk) (R : List Row) : Prop where
  has : ∀ x ∈ H, w.heap[x.b]? = some (.cells x.cs.toArray x.t x.fz)
  nodup : (H.map Blk.b).Nodup
  rows : ∀ r ∈ R, RowAt w r ∧ ∀ x ∈ H, x.wr = true → r.cs ≠ [] → x.b ≠ r.b
def cxOf (w : World) (H : List Blk) (R : List Row) : Cx := ⟨w, wids H, H.map Blk.b, R⟩
theorem Pre.good {w : World} {H : List Blk} {R : List Row} (h : Pre w H R) : Good (cxOf w H R) w H :=
  ⟨h.has, h.nodup, fun x hx hwr => .inr (List.mem_map.2 ⟨x, List.mem_filter.2 ⟨hx, by simpa using hwr⟩, rfl⟩), fun x hx => .inr (List.mem_map.2 ⟨x, hx, rfl⟩), Keep.refl _ _, h.rows⟩
/-- how a call ends: with a value and blocks that K names -/
def Ends (c : Cx) (K : Value → List Blk → Prop) : Ending → World → Prop := fun e w' => ∃ v H', e = .returned v ∧ K v H' ∧ Good c w' H'
def Spec (P : Program) (f : FuncId) (args : List Value) (H : List Blk) (R : List Row) (K : Value → List Blk → Prop) : Prop :=
  ∀ w, Pre w H R → Calls P f args.toArray w (Ends (cxOf w H R) K)
theorem Spec.mono {P : Program} {f : FuncId} {args : List Value} {H : List Blk} {R : List Row} {K K' : Value → List Blk → Prop} (h : Spec P f args H R K) (hk : ∀ v H', K v H' → K' v H') : Spec P f args H R K' :=
  fun w hw => (h w hw).mono fun _ _ ⟨v, H', e, k, g⟩ => ⟨v, H', e, hk v H' k, g⟩
def argsE : Nat → List Value → Env
  | _, [] => []
  | i, v :: r => (i, v) :: argsE (i + 1) r
theorem lk_argsE : ∀ (vs : List Value) (i t : Nat) (v : Value), lk (argsE i vs) t = some v → i ≤ t ∧ vs[t - i]? = some v
  | [], _, _, _, h => by cases h
  | u :: r, i, t, v, h => by
    simp only [argsE, lk] at h
    cases hb : Nat.beq i t with
    | true =>
      have hit : i = t := Nat.eq_of_beq_eq_true hb
      subst hit
      simp only [hb, cond_true, Option.some.injEq] at h
      subst h
      simp
    | false =>
      simp only [hb, cond_false] at h
      obtain ⟨h1, h2⟩ := lk_argsE r (i + 1) t v h
      refine ⟨by omega, ?_⟩
      rw [show t - i = (t - (i + 1)) + 1 by omega, List.getElem?_cons_succ]
      exact h2
section
variable {P : Program}
theorem Spec.intro {f : FuncId} {fn : Func} {code : Code} {N : Nat} {args : List Value} {H : List Blk} {R : List Row} {K : Value → List Blk → Prop} (hf : P.funcs[f]? = some fn) (hb : fn.body = some code) (hN : fn.ntmps = N) (hl : Nat.ble args.length N = true)
    (h : ∀ w, Pre w H R → TC P (cxOf w H R) (bodyPost P fn (Ends (cxOf w H R) K)) N code (argsE 0 args) H) : Spec P f args H R K := fun w hw =>
  calls_of_wp hf hb (h w hw _ _ ⟨by have hl' : args.length ≤ N := by simpa using hl
                                    simp [hN]; omega, rfl, fun t v ht => by
    obtain ⟨_, h2⟩ := lk_argsE args 0 t v ht
    simp only [Nat.sub_zero] at h2
    have hlt : t < args.length := (List.getElem?_eq_some_iff.1 h2).1
    have h3 : args[t] = v := by rw [List.getElem?_eq_getElem hlt] at h2; simpa using h2
    simp [Array.getElem?_append, hlt, h3]⟩ hw.good)
variable {c : Cx} {ops : Array Oper} {Q : Exit → Act → World → Prop} {N : Nat} {e : Env} {H : List Blk} {rest : List Oper} {d : Nat} {t : TypeId} {p : String} {af : Array Edge}
theorem mapM1 (f : ResultVar → Sem Value) {x : ResultVar} {v : Value} {w : World} (h1 : (f x).run P w = .ok v w) : (do let vs ← #[x].mapM f; pure (if h : vs.size = 1 then vs[0] else .tuple vs) : Sem Value).run P w = .ok v w := by
  simp [h1]
theorem mapM2 (f : ResultVar → Sem Value) {x y : ResultVar} {v v' : Value} {w : World} (h1 : (f x).run P w = .ok v w) (h2 : (f y).run P w = .ok v' w) :
    (do let vs ← #[x, y].mapM f; pure (if h : vs.size = 1 then vs[0] else .tuple vs) : Sem Value).run P w = .ok (.tuple #[v, v']) w := by
  simp [h1, h2]
theorem mapM3 (f : ResultVar → Sem Value) {x y z : ResultVar} {v v' v'' : Value} {w : World} (h1 : (f x).run P w = .ok v w) (h2 : (f y).run P w = .ok v' w) (h3 : (f z).run P w = .ok v'' w) :
    (do let vs ← #[x, y, z].mapM f; pure (if h : vs.size = 1 then vs[0] else .tuple vs) : Sem Value).run P w = .ok (.tuple #[v, v', v'']) w := by
  simp [h1, h2, h3]
theorem TE.ret0 {fn : Func} {K : Value → List Blk → Prop} {x : Exit} (hx : x = .ret ∨ x = .normal) (hr : fn.results = #[]) (hK : K (.tuple #[]) H) : TE c (bodyPost P fn (Ends c K)) N x e H := fun _ w ha hw => by
  rcases hx with rfl | rfl <;> exact ⟨ha.defers, _, results_none hr _ P w, _, H, rfl, hK, hw⟩
theorem TE.ret1 {fn : Func} {K : Value → List Blk → Prop} {s : Nat} {v : Value} (hr : fn.results = #[.tmp s]) (hv : lk e s = some v) (hK : K v H) : TE c (bodyPost P fn (Ends c K)) N .ret e H := fun _ w ha hw =>
  ⟨ha.defers, _, results_tmp hr _ P w, _, H, rfl, (ha.at_ s v hv).symm ▸ hK, hw⟩
theorem TE.ret2 {fn : Func} {K : Value → List Blk → Prop} {s s' : Nat} {v v' : Value} (hr : fn.results = #[.tmp s, .tmp s']) (hv : lk e s = some v) (hv' : lk e s' = some v') (hK : K (.tuple #[v, v']) H) : TE c (bodyPost P fn (Ends c K)) N .ret e H := fun _ w ha hw =>
  ⟨ha.defers, _, results_tmp2 hr _ P w, _, H, rfl, by rw [ha.at_ s v hv, ha.at_ s' v' hv']; exact hK, hw⟩
/-- one result, if it is read at all -/
inductive ResAt (P : Program) (e : Env) (H : List Blk) : ResultVar → Value → Prop
  | tmp {s : Nat} {v : Value} (h : lk e s = some v) : ResAt P e H (.tmp s) v
  | one {s b o ty : Nat} {B : Blk} {v : Value} (i : Nat) (h : lk e s = some (.pointer (some ⟨b, o, none⟩))) (hB : H[i]? = some B) (hb : B.b = b) (hL : One P ty) (hv : B.cs[o]? = some v) : ResAt P e H (.cell s ty) v
  | agg {s b o ty n : Nat} {B : Blk} {vs : List Value} (i : Nat) (h : lk e s = some (.pointer (some ⟨b, o, none⟩))) (hB : H[i]? = some B) (hb : B.b = b) (hL : Agg P ty n) (hvs : (B.cs.drop o).take n = vs) (hn : vs.length = n) : ResAt P e H (.cell s ty) (.agg vs.toArray)
theorem Good.loadN {w : World} (hw : Good c w H) {i o n : Nat} {B : Blk} {vs : List Value} (hB : H[i]? = some B) (hvs : (B.cs.drop o).take n = vs) (hn : vs.length = n) : (loadCells ⟨B.b, o, none⟩ n).run P w = .ok vs.toArray w := by
  have hc := run_loadCells_list (P := P) (w := w) (⟨B.b, o, none⟩ : Addr) vs (fun j v hj => by
    have hjn : j < n := by rw [← hn]; exact (List.getElem?_eq_some_iff.1 hj).1
    have : B.cs[o + j]? = some v := by rw [← hvs, List.getElem?_take, if_pos hjn, List.getElem?_drop] at hj; exact hj
    have := hw.cell hB this
    unfold Addr.add
    split
    · rename_i h0; subst h0; simpa using this
    · exact this)
  rw [hn] at hc
  exact hc
def resSem (tmps : Array Value) : ResultVar → Sem Value
  | .tmp t => pure (tmps.getD t undef)
  | .cell s ty => do loadVar ty (← asAddr (tmps.getD s undef))
theorem ResAt.run {rv : ResultVar} {v : Value} (h : ResAt P e H rv v) {a : Act} {w : World} (ha : Fits N a e) (hw : Good c w H) : (resSem a.tmps rv).run P w = .ok v w := by
  cases h with
  | tmp h => simp only [resSem, ha.at_ _ _ h]; rfl
  | one i h hB hb hL hv =>
    subst hb
    simp only [resSem, ha.at_ _ _ h]
    simp [asAddr, loadVar, (hL w).1, hw.cell hB hv]
  | agg i h hB hb hL hvs hn =>
    subst hb
    simp only [resSem, ha.at_ _ _ h]
    simp [asAddr, loadVar, (hL w).1, (hL w).2, hw.loadN hB hvs hn]
theorem TE.retA {fn : Func} {K : Value → List Blk → Prop} {rv : ResultVar} {v : Value} (hr : fn.results = #[rv]) (h1 : ResAt P e H rv v) (hK : K v H) : TE c (bodyPost P fn (Ends c K)) N .ret e H := fun a w ha hw => by
  refine ⟨ha.defers, v, ?_, v, H, rfl, hK, hw⟩
  unfold results
  rw [hr]
  exact mapM1 (resSem a.tmps) (h1.run ha hw)
theorem TE.retAB {fn : Func} {K : Value → List Blk → Prop} {rv rv' : ResultVar} {v v' : Value} (hr : fn.results = #[rv, rv']) (h1 : ResAt P e H rv v) (h2 : ResAt P e H rv' v') (hK : K (.tuple #[v, v']) H) : TE c (bodyPost P fn (Ends c K)) N .ret e H := fun a w ha hw => by
  refine ⟨ha.defers, .tuple #[v, v'], ?_, .tuple #[v, v'], H, rfl, hK, hw⟩
  unfold results
  rw [hr]
  exact mapM2 (resSem a.tmps) (h1.run ha hw) (h2.run ha hw)
theorem TE.retABC {fn : Func} {K : Value → List Blk → Prop} {rv rv' rv'' : ResultVar} {v v' v'' : Value} (hr : fn.results = #[rv, rv', rv'']) (h1 : ResAt P e H rv v) (h2 : ResAt P e H rv' v') (h3 : ResAt P e H rv'' v'') (hK : K (.tuple #[v, v', v'']) H) :
    TE c (bodyPost P fn (Ends c K)) N .ret e H := fun a w ha hw => by
  refine ⟨ha.defers, .tuple #[v, v', v''], ?_, .tuple #[v, v', v''], H, rfl, hK, hw⟩
  unfold results
  rw [hr]
  exact mapM3 (resSem a.tmps) (h1.run ha hw) (h2.run ha hw) (h3.run ha hw)
theorem Good.perm {w : World} {H' : List Blk} (h : Good c w H) (hp : H.Perm H') : Good c w H' :=
  ⟨fun x hx => h.has x (hp.mem_iff.2 hx), (hp.map _).nodup_iff.1 h.nodup, fun x hx => h.mine x (hp.mem_iff.2 hx), fun x hx => h.own x (hp.mem_iff.2 hx), h.keep, fun r hr => ⟨(h.rows r hr).1, fun x hx => (h.rows r hr).2 x (hp.mem_iff.2 hx)⟩⟩
theorem mem_wids {H : List Blk} {k : Nat} : k ∈ wids H ↔ ∃ x ∈ H, x.wr = true ∧ x.b = k := by
  simp [wids, and_assoc]
/-- behind a call: what the callee leaves, and what it did not get -/
theorem Good.back {w w' : World} {H1 H2 H' : List Blk} {R1 : List Row} (h : Good c w (H1 ++ H2)) (h' : Good (cxOf w H1 R1) w' H') : Good c w' (H' ++ H2) := by
  have hnd := h.nodup
  rw [List.map_append, List.nodup_append] at hnd
  obtain ⟨_, hn2, hdis⟩ := hnd
  have hsep : ∀ x ∈ H1, ∀ y ∈ H2, x.b ≠ y.b := fun x hx y hy => hdis _ (List.mem_map.2 ⟨x, hx, rfl⟩) _ (List.mem_map.2 ⟨y, hy, rfl⟩)
  have hk2 : ∀ y ∈ H2, w'.heap[y.b]? = w.heap[y.b]? := fun y hy => h'.keep.block _ (h.lt (List.mem_append_right _ hy)) (fun hm => by
    obtain ⟨x, hx, _, e⟩ := mem_wids.1 hm
    exact hsep x hx y hy e)
  have hrow : ∀ r ∈ c.R, r.cs ≠ [] → r.b ∉ wids H1 := fun r hr hne hm => by
    obtain ⟨x, hx, hwr, e⟩ := mem_wids.1 hm
    exact (h.rows r hr).2 x (List.mem_append_left _ hx) hwr hne e
  refine ⟨fun x hx => ?_, ?_, fun x hx hwr => ?_, fun x hx => ?_, ?_, fun r hr => ⟨?_, fun x hx hwr hne => ?_⟩⟩
  · rcases List.mem_append.1 hx with hx | hx
    · exact h'.has x hx
    · rw [hk2 x hx]; exact h.has x (List.mem_append_right _ hx)
  · rw [List.map_append, List.nodup_append]
    refine ⟨h'.nodup, hn2, fun a ha b hb => ?_⟩
    obtain ⟨x, hx, rfl⟩ := List.mem_map.1 ha
    obtain ⟨y, hy, rfl⟩ := List.mem_map.1 hb
    rcases h'.own x hx with h1 | h1
    · have := h.lt (List.mem_append_right H1 hy)
      have h1 : w.heap.size ≤ x.b := h1
      omega
    · obtain ⟨z, hz, e⟩ := List.mem_map.1 h1
      exact e ▸ hsep z hz y hy
  · rcases List.mem_append.1 hx with hx | hx
    · rcases h'.mine x hx hwr with h1 | h1
      · exact .inl (Nat.le_trans h.keep.size h1)
      · obtain ⟨z, hz, hzw, e⟩ := mem_wids.1 h1
        exact e ▸ h.mine z (List.mem_append_left _ hz) hzw
    · exact h.mine x (List.mem_append_right _ hx) hwr
  · rcases List.mem_append.1 hx with hx | hx
    · rcases h'.own x hx with h1 | h1
      · exact .inl (Nat.le_trans h.keep.size h1)
      · obtain ⟨z, hz, e⟩ := List.mem_map.1 h1
        exact e ▸ h.own z (List.mem_append_left _ hz)
    · exact h.own x (List.mem_append_right _ hx)
  · refine ⟨Nat.le_trans h.keep.size h'.keep.size, fun k hk hks => (h'.keep.block k (Nat.lt_of_lt_of_le hk h.keep.size) (fun hm => ?_)).trans (h.keep.block k hk hks), h'.keep.os.trans h.keep.os, h'.keep.tape.trans h.keep.tape, h'.keep.output.trans h.keep.output⟩
    obtain ⟨z, hz, hzw, e⟩ := mem_wids.1 hm
    rcases h.mine z (List.mem_append_left _ hz) hzw with h1 | h1
    · omega
    · exact hks (e ▸ h1)
  · exact (h.rows r hr).1.same fun hne => h'.keep.block _ ((h.rows r hr).1.lt hne) (hrow r hr hne)
  · rcases List.mem_append.1 hx with hx | hx
    · rcases h'.mine x hx hwr with h1 | h1
      · have h1 : w.heap.size ≤ x.b := h1
        have := (h.rows r hr).1.lt hne
        omega
      · obtain ⟨z, hz, hzw, e⟩ := mem_wids.1 h1
        exact e ▸ (h.rows r hr).2 z (List.mem_append_left _ hz) hzw hne
    · exact (h.rows r hr).2 x (List.mem_append_right _ hx) hwr hne
/-- the blocks at these places, and the others -/
def takeB : List Nat → List Blk → Option (List Blk × List Blk)
  | [], H => some ([], H)
  | i :: is, H => match H[i]?, takeB is (H.eraseIdx i) with
    | some x, some (A, B) => some (x :: A, B)
    | _, _ => none
theorem perm_erase : ∀ (H : List Blk) (i : Nat) (h : i < H.length), H.Perm (H[i] :: H.eraseIdx i)
  | [], _, h => by simp at h
  | x :: r, 0, _ => by simp
  | x :: r, i + 1, h => by
    have h' : i < r.length := by simpa using h
    have := (perm_erase r i h').cons x
    simpa using this.trans (List.Perm.swap _ _ _)
theorem takeB_perm : ∀ {is : List Nat} {H A B : List Blk}, takeB is H = some (A, B) → H.Perm (A ++ B)
  | [], H, A, B, h => by simp only [takeB, Option.some.injEq, Prod.mk.injEq] at h; obtain ⟨rfl, rfl⟩ := h; exact List.Perm.refl _
  | i :: is, H, A, B, h => by
    simp only [takeB] at h
    split at h
    · rename_i x A' B' hx ht
      simp only [Option.some.injEq, Prod.mk.injEq] at h
      obtain ⟨rfl, rfl⟩ := h
      have hlt : i < H.length := (List.getElem?_eq_some_iff.1 hx).1
      have hxe : H[i] = x := (List.getElem?_eq_some_iff.1 hx).2
      have h1 : H.Perm (x :: H.eraseIdx i) := hxe ▸ perm_erase H i hlt
      exact h1.trans ((takeB_perm ht).cons x)
    · cases h
theorem TL.call (is : List Nat) {f : FuncId} {dst : Option Nat} {xs : Array Operand} {ts : Array TypeId} {vs : List Value} {H1 H2 : List Blk} {R1 : List Row} {K : Value → List Blk → Prop}
    (hcall : ∀ args w, (callFunc f args).run P w = .ok (.enter f args) w) (hargs : evs e xs.toList = some vs) (htake : takeB is H = some (H1, H2)) (hsp : Spec P f vs H1 R1 K)
    (hrows : ∀ w, Good c w H → ∀ r ∈ R1, RowAt w r ∧ ∀ x ∈ H1, x.wr = true → r.cs ≠ [] → x.b ≠ r.b) (hd : ∀ t, dst = some t → Nat.blt t N = true)
    (h : ∀ v H', K v H' → TL P c ops Q N rest (updO e dst v) (H' ++ H2)) : TL P c ops Q N (⟨dst, .call ⟨.value (.func f), xs, ts⟩, t, p, af, none⟩ :: rest) e H := fun a w ha hw =>
  wpList_plain rfl fun K0 hK0 => by
    have hrun : (execOp a.eval ⟨dst, .call ⟨.value (.func f), xs, ts⟩, t, p, af, none⟩).run P w = .ok (.enter f vs.toArray) w := by
      have h1 : xs.map a.eval = vs.toArray := by
        rw [← ha.evs hargs]
        exact Array.toList_inj.1 (by rw [Array.toList_map])
      simp [execOp, resolve, h1, Act.eval, Deferred.ofValue, invoke, hcall]
    unfold Oper.wp
    rw [hrun, Oper.upon_enter]
    have hp := takeB_perm htake
    have hg := hw.perm hp
    have hpre : Pre w H1 R1 := by
      have hs := hg.heap_of (List.sublist_append_left H1 H2)
      exact ⟨hs.has, hs.nodup, fun r hr => hrows w hw r hr⟩
    refine (hsp w hpre).mono ?_
    rintro en w' ⟨v, H', rfl, hk, hg'⟩
    exact hK0 _ _ (h v H' hk _ _ (ha.putO v hd) (hg.back hg'))
/-! ### Fewer blocks -/
def maskB : List Bool → List Blk → List Blk
  | true :: m, x :: r => x :: maskB m r
  | false :: m, _ :: r => maskB m r
  | _, _ => []
theorem maskB_sub : ∀ (m : List Bool) (H : List Blk), (maskB m H).Sublist H
  | true :: m, x :: r => (maskB_sub m r).cons_cons x
  | false :: m, x :: r => (maskB_sub m r).cons x
  | [], H => by cases H <;> simp [maskB]
  | true :: _, [] => by simp [maskB]
  | false :: _, [] => by simp [maskB]
theorem TC.mask {code : Code} (m : List Bool) {H' : List Blk} (hm : maskB m H = H') (h : TC P c Q N code e H') : TC P c Q N code e H := fun a w ha hw => h a w ha (hw.heap_of (hm ▸ maskB_sub m H))
theorem TL.mask {l : List Oper} (m : List Bool) {H' : List Blk} (hm : maskB m H = H') (h : TL P c ops Q N l e H') : TL P c ops Q N l e H := fun a w ha hw => h a w ha (hw.heap_of (hm ▸ maskB_sub m H))
theorem TE.mask {x : Exit} (m : List Bool) {H' : List Blk} (hm : maskB m H = H') (h : TE c Q N x e H') : TE c Q N x e H := fun a w ha hw => h a w ha (hw.heap_of (hm ▸ maskB_sub m H))
theorem TC.permB {code : Code} {H' : List Blk} (hp : H.Perm H') (h : TC P c Q N code e H') : TC P c Q N code e H := fun a w ha hw => h a w ha (hw.perm hp)
/-! ### Loops -/
def AtSome {σ : Type} (c : Cx) (N : Nat) (E : σ → Env) (HH : σ → List Blk) (J : σ → Prop) : Act → World → Prop := fun a w => ∃ s, J s ∧ Fits N a (E s) ∧ Good c w (HH s)
theorem least {p : Nat → Prop} (h : ∃ n, p n) : ∃ n, p n ∧ ∀ m, p m → n ≤ m := by
  obtain ⟨n, hn⟩ := h
  induction n using Nat.strongRecOn with
  | _ n ih =>
    by_cases hm : ∃ m, m < n ∧ p m
    · obtain ⟨m, hlt, hm⟩ := hm
      exact ih m hlt hm
    · exact ⟨n, hn, fun m hp => Nat.le_of_not_lt fun hlt => hm ⟨m, hlt, hp⟩⟩
theorem TC.loop {body : Code} {σ : Type} (E : σ → Env) (HH : σ → List Blk) (I : σ → Prop) (μ : σ → Nat) (s0 : σ) (hI : I s0) (ks : List Nat) (he : sel e ks = some (E s0)) (hH : H = HH s0)
    (round : ∀ s, I s → TC P c (Exit.then (AtSome c N E HH fun s' => I s' ∧ μ s' < μ s) Q) N body (E s) (HH s)) : TC P c Q N (.loop body) e H := fun a w ha hw => by
  subst hH
  let p : Act → World → Nat → Prop := fun a w n => ∃ s, I s ∧ μ s = n ∧ Fits N a (E s) ∧ Good c w (HH s)
  have hp : ∀ a w, (∃ n, p a w n) → p a w (Classical.epsilon fun n => p a w n ∧ ∀ m, p a w m → n ≤ m) ∧ ∀ m, p a w m → (Classical.epsilon fun n => p a w n ∧ ∀ m, p a w m → n ≤ m) ≤ m :=
    fun a w h => Classical.epsilon_spec (least h)
  refine wp_loop (fun a w => ∃ n, p a w n) (fun a w => Classical.epsilon fun n => p a w n ∧ ∀ m, p a w m → n ≤ m) ⟨_, s0, hI, rfl, ha.weaken (sel_lk he), hw⟩ (fun a w hIa => ?_)
  obtain ⟨s, hs, hm, ha', hw'⟩ := (hp a w hIa).1
  refine wp_mono (round s hs a w ha' hw') (fun ex a1 w1 hq => ?_)
  cases ex with
  | normal =>
    obtain ⟨s', ⟨hI', hlt⟩, h1, h2⟩ := hq
    have hx : p a1 w1 (μ s') := ⟨s', hI', rfl, h1, h2⟩
    exact ⟨⟨_, hx⟩, Nat.lt_of_le_of_lt ((hp a1 w1 ⟨_, hx⟩).2 _ hx) (hm ▸ hlt)⟩
  | _ => exact hq
theorem TE.again {σ : Type} {E : σ → Env} {HH : σ → List Blk} {J : σ → Prop} (s' : σ) (hJ : J s') (ks : List Nat) (he : sel e ks = some (E s')) (hH : H = HH s') : TE c (Exit.then (AtSome c N E HH J) Q) N .normal e H :=
  fun _ _ ha hw => ⟨s', hJ, ha.weaken (sel_lk he), hH ▸ hw⟩
end
end Go.Z
