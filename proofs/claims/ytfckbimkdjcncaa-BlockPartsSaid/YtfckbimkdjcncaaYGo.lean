/- Effects, regions in the text's order, code, functions. Generic in the program. -/
import Derived.Test.YtfckbimkdjcncaaYRun
import Derived.Test.YtfckbimkdjcncaaYApp
set_option linter.unusedSimpArgs false
set_option linter.unusedVariables false
namespace Go.Y
open Go.Z (Row Blk plainV Keep KeepP RowAt Fits runsTo Pre Cx TL TC TE Ends cxOf)
section
variable {P : Program} {cx : Ctx} (hcx : CtxOK P cx)
include hcx
omit hcx in
theorem repL_len {α : Type} (x : α) : ∀ n, (repL x n).length = n
  | 0 => rfl
  | n + 1 => by simp [repL, repL_len x n]
omit hcx in
theorem repL_flat {ρ : List Nat} {R : List Row} {id : Nat} {z : Sh id} {vs : List Value} (h : A2 (repS ρ R) (Sh.f id z) vs) : ∀ n, A2 (repS ρ R) ((repL z n).flatMap (Sh.f id)) (List.replicate n vs).flatten
  | 0 => .nil
  | n + 1 => by
    simp only [repL, List.flatMap_cons, List.replicate_succ, List.flatten_cons]
    exact h.app (repL_flat h n)
omit hcx in
theorem elemsV_sound {ρ : List Nat} {R : List Row} {e : Env} {e' : Z.Env} (he : repE ρ R e e') {id sz : Nat} {zs : List Sc} (hsz : sz = Sh.sz id) :
    ∀ {ps : List (Nat × Operand)} {l l' : List (Sh id)} {cs : List Value}, A2 (repS ρ R) (l.flatMap (Sh.f id)) cs → (ps.all fun p => Nat.blt p.1 l.length) = true → elemsV e id zs l ps = some l' →
      ∃ vs, Z.evp e' ps = some vs ∧ ∃ ds, Instr.fill (fun i => some (i * sz, sz)) cs.toArray vs = some ds.toArray ∧ A2 (repS ρ R) (l'.flatMap (Sh.f id)) ds ∧ l'.length = l.length
  | [], l, l', cs, hs, _, h => by
    cases h
    exact ⟨[], rfl, cs, rfl, hs, rfl⟩
  | (i, x) :: r, l, l', cs, hs, hlt, h => by
    simp only [List.all_cons, Bool.and_eq_true] at hlt
    have hi : i < l.length := blt_lt hlt.1
    simp only [elemsV] at h
    split at h
    · rename_i xs hxs
      rw [Option.bind_eq_some_iff] at hxs
      obtain ⟨x1, hx1, hx2⟩ := hxs
      split at h
      · rename_i z hz
        obtain ⟨u, hu, hr⟩ := ev1_rep he hx1
        obtain ⟨us, hc, hus⟩ := rep1.cells hr
        have hsc := scOf_rep (v := u) hx2 hus
        have hun := Sh.un_rep id hz hsc
        have hul : us.length = Sh.sz id := by rw [← hun.len, Sh.f_len]
        have hset := el_set hs hi hun
        rw [setAt_eq] at h
        have hcl : cs.length = l.length * Sh.sz id := by rw [← hs.len, flat_len]
        have hle : i * Sh.sz id + Sh.sz id ≤ cs.length := by
          rw [hcl]
          have := Nat.mul_le_mul_right (Sh.sz id) (show i + 1 ≤ l.length by omega)
          rwa [Nat.add_mul, Nat.one_mul] at this
        have hzs : Z.setL cs (i * Sh.sz id) us = cs.take (i * Sh.sz id) ++ us ++ cs.drop (i * Sh.sz id + Sh.sz id) := by
          rw [Zset_eq (by omega), hul]
        rw [← hzs] at hset
        obtain ⟨vs, e1, ds, e2, e3, e4⟩ := elemsV_sound he hsz hset (by simpa using hlt.2) h
        refine ⟨(i, u) :: vs, by simp [Z.evp, hu, e1], ds, ?_, e3, by rw [e4]; simp⟩
        simp only [Instr.fill]
        have hcs : u.cells.size = sz := by rw [hc, hsz]; simpa using hul
        have hcond : ¬ (u.cells.size ≠ sz || i * sz + u.cells.size > cs.toArray.size) = true := by
          rw [hcs, hsz]; simp; omega
        rw [if_neg (by simpa using hcond)]
        have hfold : (u.cells.zipIdx.foldl (fun cs (x : Value × Nat) => cs.setIfInBounds (i * sz + x.2) x.1) cs.toArray) = (Z.setL cs (i * sz) us).toArray := by
          apply Array.toList_inj.1
          rw [hc]
          have := Z.fold_setL us cs.toArray (i * sz) 0
          simpa using this
        rw [← e2]
        subst hsz
        congr 1
      · cases h
    · cases h
omit hcx in
theorem rep_flat {ρ : List Nat} {R : List Row} {id : Nat} {z : Sh id} {vs : List Value} (h : A2 (repS ρ R) (Sh.f id z) vs) : ∀ n, A2 (repS ρ R) ((List.replicate n z).flatMap (Sh.f id)) (List.replicate n vs).flatten
  | 0 => .nil
  | n + 1 => by
    simp only [List.flatMap_cons, List.replicate_succ, List.flatten_cons]
    exact h.app (rep_flat h n)
omit hcx in
theorem make_run {t te : TypeId} {el : TyI} (hund : P.underlying t = some (.slice te)) (htel : TyOK P te el) {z : V1} (hz : el.z = some z) {vz : Value} {cs : List Value} (hvz : ∀ w, (zeroValue te).run P w = .ok vz w) (hcs : vz.cells = cs.toArray) (hcl : cs.length = el.sz) (h0 : 0 < el.sz) (h1 : el.sz ≤ 1024)
    {k k' : IntKind} {n m : Int} (h : 0 ≤ n ∧ n ≤ m ∧ m ≤ 65536) (w : World) : (Instr.makeSlice t (.int k n) (.int k' m)).run P w = .ok (.slice (some ⟨w.heap.size, 0, none⟩) n.toNat m.toNat) (w.alloc (.cells ((List.replicate m.toNat cs).flatten).toArray te)) := by
  obtain ⟨i, hi, hsz, hby, _⟩ := htel.info (w0 := w)
  have wn : IntKind.i64.wrap n = n := Z.wI64 (by omega)
  have wm : IntKind.i64.wrap m = m := Z.wI64 (by omega)
  have hb1 : i.bytes ≤ 32768 := by omega
  have hbn : ((i.bytes : Nat) : Int) * n ≤ 32768 * 65536 := Int.mul_le_mul (by omega) (by omega) h.1 (by omega)
  have hbm : ((i.bytes : Nat) : Int) * m ≤ 32768 * 65536 := Int.mul_le_mul (by omega) (by omega) (by omega) (by omega)
  have hroom : ¬ m.toNat * i.bytes > roomBytes := by
    have : m.toNat * i.bytes ≤ 65536 * 32768 := Nat.mul_le_mul (by omega) hb1
    unfold roomBytes; omega
  have hc1 : (decide (m < 0) || decide (((i.bytes : Nat) : Int) * m > 2 ^ 48)) = false := by
    simp only [Bool.or_eq_false_iff, decide_eq_false_iff_not]; omega
  have hc2 : ¬ n < 0 := by omega
  have hc3 : ¬ n > m := by omega
  have hti : (typeInfo te).run P w = .ok i w := by simp [typeInfo, hi]
  have hfl := flat_zero m.toNat cs el.sz hcl h0
  have hmap : (Array.range (m.toNat * el.sz)).map (fun j => cs.toArray[j % cs.toArray.size]!) = ((List.replicate m.toNat cs).flatten).toArray := Array.toList_inj.1 (by rw [Array.toList_map, Array.toList_range, hfl])
  have hai : ∀ (k : IntKind) (x : Int), (asInt (.int k x)).run P w = .ok x w := fun k x => by simp [asInt, asIntOf]
  unfold Instr.makeSlice
  by_cases hm0 : m.toNat = 0
  · have hm1 : m = 0 := by omega
    have hn1 : n = 0 := by omega
    subst hm1
    subst hn1
    have hc4 : ¬ (0 : Int) < 0 := by omega
    simp only [Sem.run_bind, run_underlying hund, Result.andThen_ok, hti, hai, Sem.run_pure, wm, hc1, gt_iff_lt, decide_eq_false hc4, Bool.or_self, Bool.false_eq_true, if_false, askRoom, if_neg hroom, htel.size w]
    have hr0 : Array.range 0 = #[] := Array.toList_inj.1 (by simp)
    simp [newRow, htel.size w, hr0]
  · have hne : ¬ m.toNat * el.sz = 0 := by
      intro h0
      rcases Nat.mul_eq_zero.1 h0 with h0 | h0 <;> omega
    simp only [Sem.run_bind, run_underlying hund, Result.andThen_ok, hti, hai, Sem.run_pure, wn, wm, hc1, decide_eq_false hc2, decide_eq_false hc3, Bool.or_self, Bool.false_eq_true, if_false, askRoom, if_neg hroom, htel.size w, if_neg hne, hvz w, hcs, hmap]
    simp [newRow]
theorem opE_sound {c : Cx} {ρ : List Nat} {e : Env} {e' : Z.Env} {H : List Bk} {H' : List Blk} {W : List Rw} (he : repE ρ c.R e e') (hH : repH ρ c.R H H') (hR : repR W c.R) {op : Op} {Ψ : Rs → Prop} (h : (opE cx e H W op).all Ψ)
    {N : Nat} {o : Oper} {a : Act} {w : World} (ho : o.op = op) (ha : Fits N a e') (hw : Z.Good c w H') : runsTo P o a w fun v w' => Eff c ρ Ψ w v w' := by
  unfold opE at h
  split at h
  · -- store
    obtain ⟨ti, hti, h⟩ := peel h
    obtain ⟨y, hy, h⟩ := peel h
    obtain ⟨x, hx, h⟩ := peel h
    obtain ⟨vy, h1, r1⟩ := ev1_rep he hy
    obtain ⟨vx, h2, r2⟩ := evS_rep he hx
    obtain ⟨w', hrun, heff⟩ := storeE_sound (hcx.ty _ _ hti) hH r1 r2 h hw
    have : (execOp a.eval o).run P w = .ok .skip w' := by simp [execOp, ho, ha.ev h1, ha.ev h2, hrun]
    unfold runsTo
    rw [this]
    exact heff
  · -- box
    rename_i t x
    obtain ⟨y, hy, h⟩ := peel h
    obtain ⟨vy, h1, r1⟩ := ev1_rep he hy
    obtain ⟨cs, hcs, hg⟩ := rep1.cells r1
    have : (execOp a.eval o).run P w = .ok (.value (.pointer (some ⟨w.heap.size, 0, none⟩))) (w.alloc (.cells cs.toArray t)) := by
      simp [execOp, ho, ha.ev h1, Instr.box, newVar, newRow, hcs]
    unfold runsTo
    rw [this]
    exact eff_new (x := .p (Y.len H) 0) (ss := segsOf y) hH hw hg h fun ρ' hρ => ⟨_, hρ, rfl⟩
  · -- alloc
    rename_i t
    obtain ⟨ti, hti, h⟩ := peel h
    obtain ⟨z, hz, h⟩ := peel h
    obtain ⟨vz, hvz, hrz⟩ := (hcx.ty _ _ hti).zero z hz
    obtain ⟨cs, hcs, hg⟩ := rep1.cells (hrz ρ c.R)
    have : (execOp a.eval o).run P w = .ok (.value (.pointer (some ⟨w.heap.size, 0, none⟩))) (w.alloc (.cells cs.toArray t)) := by
      simp [execOp, ho, Instr.alloc, newVar, newRow, hcs, hvz w]
    unfold runsTo
    rw [this]
    exact eff_new (x := .p (Y.len H) 0) (ss := segsOf z) hH hw hg h fun ρ' hρ => ⟨_, hρ, rfl⟩
  · -- buildSlice
    rename_i t n ps
    obtain ⟨⟨nn, el⟩, hel, h⟩ := peel h
    obtain ⟨elt, htel, hT⟩ := elemO_spec hcx hel
    obtain ⟨z, hz, h⟩ := peel h
    obtain ⟨id, hid, h⟩ := peel h
    obtain ⟨z0, hz0, h⟩ := peel h
    obtain ⟨l, hl, h⟩ := peel h
    obtain ⟨ti, hti, h⟩ := peel h
    split at h
    · rename_i t' hd
      cases hq : (Nat.beq (Sh.sz id) el.sz && Nat.ble (n * el.sz) 16777216 && Nat.blt 0 el.sz && ps.toList.all fun p => Nat.blt p.1 n) with
      | false => simp only [hq, cond_false] at h; exact h.elim
      | true =>
        simp only [hq, cond_true] at h
        simp only [Bool.and_eq_true] at hq
        obtain ⟨⟨⟨q1, q3⟩, q4⟩, q5⟩ := hq
        have q1 := Nat.eq_of_beq_eq_true q1
        have q3 := Nat.le_of_ble_eq_true q3
        have q4 := blt_lt q4
        have hund := (hcx.ty _ _ hti).und
        rw [hd] at hund
        obtain ⟨vz, hvz, hrz⟩ := htel.zero z hz
        obtain ⟨cs, hcs, hg⟩ := rep1.cells (hrz ρ c.R)
        rw [Option.bind_eq_some_iff] at hz0
        obtain ⟨zc, hzc, hzu⟩ := hz0
        have hun := Sh.un_rep id hzu (scOf_rep (v := vz) hzc hg)
        have hcl : cs.length = el.sz := by rw [← hun.len, Sh.f_len, q1]
        have hte : t' = elt := by
          rcases hT with ⟨m, _, e2⟩ | ⟨_, e2⟩
          · rw [hund] at e2; cases e2
          · rw [hund] at e2; cases e2; rfl
        subst hte
        have hfin := h
        have hr0 : Array.range 0 = #[] := Array.toList_inj.1 (by simp)
        rcases Nat.eq_zero_or_pos n with hn0 | q2
        · subst hn0
          have hps : ps.toList = [] := by
            cases hh : ps.toList with
            | nil => rfl
            | cons p r =>
              rw [hh] at q5
              simp only [List.all_cons, Bool.and_eq_true] at q5
              exact absurd (blt_lt q5.1) (Nat.not_lt_zero _)
          have hps' : ps = #[] := Array.toList_inj.1 hps
          subst hps'
          have hl0 : l = [] := by
            simp only [hps, elemsV, repL, Option.some.injEq] at hl
            exact hl.symm
          subst hl0
          have : (execOp a.eval o).run P w = .ok (.value (.slice (some ⟨w.heap.size, 0, none⟩) 0 0)) (w.alloc (.cells ([] : List Value).toArray t')) := by
            simp [execOp, ho, Instr.buildSlice, run_underlying hund, htel.size w, Instr.fill, newRow, hr0]
          unfold runsTo
          rw [this]
          exact eff_new (x := .sl (Y.len H) 0 el.sz 0 0 0) (ss := [.arr id 0 []]) hH hw ⟨⟨rfl, trivial⟩, .nil⟩ hfin fun ρ' hρ => ⟨_, hρ, by simp⟩
        · skip
          obtain ⟨vs, e1, ds, e2, e3, e4⟩ := elemsV_sound he q1.symm (repL_flat hun n) (by rw [repL_len]; exact q5) hl
          have h0 := flat_zero n cs el.sz hcl q4
          have h1 : ps.map (fun (i, x) => (i, a.eval x)) = vs.toArray := Array.toList_inj.1 (by rw [Array.toList_map]; exact ha.evp e1)
          have h3 : (Array.range (n * el.sz)).map (fun i => cs.toArray[i % cs.toArray.size]!) = ((List.replicate n cs).flatten).toArray := by
            apply Array.toList_inj.1
            rw [Array.toList_map, Array.toList_range, h0]
          have hle' : ¬ n * el.sz > 2 ^ 24 := by omega
          have hnz' : ¬ n * el.sz = 0 := by
            intro h0
            rcases Nat.mul_eq_zero.1 h0 with h0 | h0 <;> omega
          have : (execOp a.eval o).run P w = .ok (.value (.slice (some ⟨w.heap.size, 0, none⟩) n n)) (w.alloc (.cells ds.toArray t')) := by
            simp only [execOp, ho, h1, Instr.buildSlice, Sem.run_bind, run_underlying hund, Result.andThen_ok, htel.size w, if_neg hle', if_neg hnz', hvz w, hcs, Sem.run_pure, h3, e2]
            simp [newRow]
          unfold runsTo
          rw [this]
          refine eff_new (x := .sl (Y.len H) 0 el.sz 0 n n) (ss := [.arr id n l]) hH hw ⟨⟨by rw [e4, repL_len], trivial⟩, by simpa [cellsOf] using e3⟩ h fun ρ' hρ => ⟨_, hρ, by simp⟩
    · exact h.elim
  · -- a call
    rename_i cl
    obtain ⟨ce, xs, ts⟩ := cl
    simp only at h
    unfold opC at h
    split at h
    · rename_i f
      split at h
      · rename_i con hcon
        obtain ⟨hok, hcall⟩ := hcx.con _ _ hcon
        cases hro : con.ro with
        | true => simp only [hro, cond_true] at h; exact h.elim
        | false =>
          simp only [hro, cond_false] at h
          obtain ⟨vs, hvs, h⟩ := peel h
          obtain ⟨us, hus, hr⟩ := evs_rep he hvs
          have hargs : xs.map a.eval = us.toArray := by
            rw [← ha.evs hus]
            exact Array.toList_inj.1 (by rw [Array.toList_map])
          have hrun : (execOp a.eval o).run P w = .ok (.enter f us.toArray) w := by
            simp [execOp, ho, resolve, hargs, Act.eval, Deferred.ofValue, invoke, hcall]
          unfold runsTo
          rw [hrun]
          exact callE_sound hok hro h hr hH hR hw
      · exact h.elim
    · split at h
      · unfold appA at h
        split at h
        · rename_i x y t t' hxs hts
          cases hb : Nat.beq t t' with
          | false => simp only [hb, cond_false] at h; exact h.elim
          | true =>
            simp only [hb, cond_true] at h
            obtain rfl := Nat.eq_of_beq_eq_true hb
            obtain ⟨sx, hsx, h1⟩ := peel h
            clear h
            obtain ⟨sy, hsy, h⟩ := peel h1
            clear h1
            obtain ⟨vx, h2, r2⟩ := evS_rep he hsx
            obtain ⟨vy, h3, r3⟩ := evS_rep he hsy
            have hx' : xs = #[x, y] := Array.toList_inj.1 (by simpa using hxs)
            have ht' : ts = #[t, t] := Array.toList_inj.1 (by simpa using hts)
            subst hx'
            subst ht'
            obtain ⟨v', w', hr, heff⟩ := appE_sound (P := P) hcx hH hR hw r2 r3 h o.type
            have : (execOp a.eval o).run P w = .ok (.value v') w' := by
              unfold execOp
              simp only [ho, resolve, invoke, builtin, Sem.run_bind, Sem.run_pure, Result.andThen_ok, List.map_toArray, List.map_cons, List.map_nil, ha.ev h2, ha.ev h3, hr]
            unfold runsTo
            rw [this]
            exact heff
        · exact h.elim
      · exact h.elim
    · exact h.elim
  · -- makeSlice
    rename_i t l cp
    obtain ⟨⟨nn, el⟩, hel, h1⟩ := peel h
    clear h
    obtain ⟨elt, htel, hT⟩ := elemO_spec hcx hel
    obtain ⟨z, hz, h⟩ := peel h1
    clear h1
    obtain ⟨id, hid, h1⟩ := peel h
    clear h
    obtain ⟨z0, hz0, h⟩ := peel h1
    clear h1
    obtain ⟨sl, hsl, h1⟩ := peel h
    clear h
    obtain ⟨sc, hsc', h⟩ := peel h1
    clear h1
    obtain ⟨ti, hti, h1⟩ := peel h
    clear h
    unfold makeE at h1
    split at h1
    · rename_i te hd
      split at h1
      · rename_i k n k' m
        cases hq : (Nat.beq (Sh.sz id) el.sz && Nat.blt 0 el.sz && Nat.ble el.sz 1024) with
        | false => simp only [hq, cond_false] at h1; exact h1.elim
        | true =>
          simp only [hq, cond_true] at h1
          simp only [Bool.and_eq_true] at hq
          have q1 := Nat.eq_of_beq_eq_true hq.1.1
          have q2 := blt_lt hq.1.2
          have q3 := Nat.le_of_ble_eq_true hq.2
          obtain ⟨ha', h⟩ := h1
          have h := h ha'
          have hund := (hcx.ty _ _ hti).und
          rw [hd] at hund
          have hte : te = elt := by
            rcases hT with ⟨m, _, e2⟩ | ⟨_, e2⟩
            · rw [hund] at e2; cases e2
            · rw [hund] at e2; cases e2; rfl
          subst hte
          obtain ⟨vz, hvz, hrz⟩ := htel.zero z hz
          obtain ⟨cs, hcs, hg⟩ := rep1.cells (hrz ρ c.R)
          rw [Option.bind_eq_some_iff] at hz0
          obtain ⟨zc, hzc, hzu⟩ := hz0
          have hun := Sh.un_rep id hzu (scOf_rep (v := vz) hzc hg)
          have hcl : cs.length = el.sz := by rw [← hun.len, Sh.f_len, q1]
          obtain ⟨vl, h2, r2⟩ := evS_rep he hsl
          obtain ⟨vc, h3, r3⟩ := evS_rep he hsc'
          cases r2
          cases r3
          have hrun := make_run (P := P) hund htel hz hvz hcs hcl q2 q3 (k := k) (k' := k') ha' w
          have : (execOp a.eval o).run P w = .ok (.value (.slice (some ⟨w.heap.size, 0, none⟩) n.toNat m.toNat)) (w.alloc (.cells ((List.replicate m.toNat cs).flatten).toArray te)) := by
            simp only [execOp, ho, ha.ev h2, ha.ev h3, Sem.run_bind, hrun, Result.andThen_ok, Sem.run_pure]
          unfold runsTo
          rw [this]
          exact eff_new (x := .sl (Y.len H) 0 el.sz 0 n.toNat m.toNat) (ss := [.arr id m.toNat (List.replicate m.toNat z0)]) hH hw ⟨⟨by simp, trivial⟩, by simpa [cellsOf] using rep_flat hun m.toNat⟩ h fun ρ' hρ => ⟨_, hρ, by simp⟩
      · exact h1.elim
    · exact h1.elim
  · exact h.elim
end
end Go.Y
