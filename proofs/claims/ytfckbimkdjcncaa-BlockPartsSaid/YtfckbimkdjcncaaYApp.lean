/- append: what it leaves. Generic in the program. -/
import Derived.Test.YtfckbimkdjcncaaYEff
import Derived.Laws.AppendOwn
set_option linter.unusedSimpArgs false
set_option linter.unusedVariables false
namespace Go.Y
open Go.Z (Row Blk plainV Keep KeepP RowAt Fits runsTo Pre Cx)
theorem plain_one {v : Value} (h : plainV v = true) : v.oneCell' = true := by cases v <;> first | rfl | (cases h; done)
theorem castL_eq {id id' : Nat} {l : List (Sh id)} {l' : List (Sh id')} (h : castL id id' l = some l') : ∃ e : id = id', l' = e ▸ l := by
  unfold castL at h
  split at h
  · rename_i e
    cases h
    exact ⟨e, rfl⟩
  · cases h
theorem flat_tk {α β : Type} {f : α → List β} {s : Nat} (hf : ∀ x, (f x).length = s) : ∀ (l : List α) (n : Nat), (l.take n).flatMap f = (l.flatMap f).take (n * s)
  | [], n => by simp
  | x :: l, 0 => by simp
  | x :: l, n + 1 => by
    have : (n + 1) * s = (f x).length + n * s := by rw [hf, Nat.add_mul]; omega
    rw [List.take_succ_cons, List.flatMap_cons, List.flatMap_cons, this, List.take_length_add_append, flat_tk hf l n]
theorem flat_dr {α β : Type} {f : α → List β} {s : Nat} (hf : ∀ x, (f x).length = s) : ∀ (l : List α) (n : Nat), (l.drop n).flatMap f = (l.flatMap f).drop (n * s)
  | [], n => by simp
  | x :: l, 0 => by simp
  | x :: l, n + 1 => by
    have : (n + 1) * s = (f x).length + n * s := by rw [hf, Nat.add_mul]; omega
    rw [List.drop_succ_cons, List.flatMap_cons, this, List.drop_length_add_append, flat_dr hf l n]
theorem flat_ln {α β : Type} {f : α → List β} {s : Nat} (hf : ∀ x, (f x).length = s) : ∀ (l : List α), (l.flatMap f).length = l.length * s
  | [] => by simp
  | x :: l => by rw [List.flatMap_cons, List.length_append, hf, flat_ln hf l, List.length_cons, Nat.add_mul]; omega
theorem TyOK.info {P : Program} {t : Nat} {ti : TyI} (h : TyOK P t ti) {w0 : World} : ∃ i, P.info? t = some i ∧ i.size = ti.sz ∧ i.bytes ≤ 32 * ti.sz ∧ ∀ z, ti.z = some z → ∃ v, i.zero = some v ∧ ∀ ρ R, rep1 ρ R z v := by
  have h1 := h.size w0
  cases hi : P.info? t with
  | none => simp [sizeOf, typeInfo, Sem.run_bind, program, Sem.run, hi] at h1
  | some i =>
    have e : i.size = ti.sz := by simpa [sizeOf, typeInfo, hi] using h1
    refine ⟨i, rfl, e, h.bytes i hi, fun z hz => ?_⟩
    obtain ⟨v, hv, hr⟩ := h.zero z hz
    have h2 := hv w0
    refine ⟨v, ?_, hr⟩
    cases hz' : i.zero with
    | none => simp [zeroValue, typeInfo, hi, hz'] at h2
    | some u => simp [zeroValue, typeInfo, hi, hz'] at h2; rw [h2]
theorem flat_zero : ∀ (n : Nat) (vs : List Value) (k : Nat), vs.length = k → 0 < k → (List.range (n * k)).map (fun i => vs.toArray[i % vs.toArray.size]!) = (List.replicate n vs).flatten := by
  intro n vs k hk h0
  subst hk
  induction n with
  | zero => simp
  | succ n ih =>
    rw [List.replicate_succ', List.flatten_append, ← ih, Nat.add_mul, Nat.one_mul, List.range_add, List.map_append]
    congr 1
    simp only [List.flatten_cons, List.flatten_nil, List.append_nil, List.map_map]
    apply List.ext_getElem
    · simp
    · intro i h1 h2
      have h2' : i < vs.length := by simpa using h2
      simp [Nat.mod_eq_of_lt h2', h2']
section
variable {P : Program} {ρ : List Nat} {c : Cx} {H : List Bk} {H' : List Blk} {W : List Rw}
/-- a block's cells turned, whatever turned them -/
theorem good_upd {w w' : World} (h : Z.Good c w H') {i : Nat} {x : Blk} (hx : H'[i]? = some x) (hwr : x.wr = true) {cs : List Value} (h1 : w'.heap[x.b]? = some (.cells cs.toArray x.t x.fz)) (h2 : ∀ k, k ≠ x.b → w'.heap[k]? = w.heap[k]?)
    (h3 : w'.heap.size = w.heap.size) (ho : w'.os = w.os) (ht : w'.tape = w.tape) (hu : w'.output = w.output) : Z.Good c w' (Z.setB H' i cs) := by
  have hxm := List.mem_of_getElem? hx
  refine ⟨fun y hy => ?_, by rw [Z.setB_b]; exact h.nodup, fun y hy hyw => ?_, fun y hy => ?_, ?_, fun r hr => ⟨?_, fun y hy hyw hne => ?_⟩⟩
  · rcases Z.mem_setB hx h.nodup hy with rfl | ⟨hy, hne⟩
    · exact h1
    · rw [h2 _ hne]; exact h.has y hy
  · rcases Z.mem_setB hx h.nodup hy with rfl | ⟨hy, _⟩
    · exact h.mine x hxm hwr
    · exact h.mine y hy hyw
  · rcases Z.mem_setB hx h.nodup hy with rfl | ⟨hy, _⟩
    · exact h.own x hxm
    · exact h.own y hy
  · refine ⟨by rw [h3]; exact h.keep.size, fun k hk hks => ?_, ho.trans h.keep.os, ht.trans h.keep.tape, hu.trans h.keep.output⟩
    rw [h2 k (fun e => by
      rcases h.mine x hxm hwr with h1 | h1
      · have : k = x.b := e; omega
      · exact hks (e ▸ h1))]
    exact h.keep.block k hk hks
  · exact (h.rows r hr).1.same fun hne => h2 _ (fun e => (h.rows r hr).2 x hxm hwr hne e.symm)
  · rcases Z.mem_setB hx h.nodup hy with rfl | ⟨hy, _⟩
    · exact (h.rows r hr).2 x hxm hwr hne
    · exact (h.rows r hr).2 y hy hyw hne
theorem eff_upd {Ψ : Rs → Prop} (hH : repH ρ c.R H H') {w w' : World} (hw : Z.Good c w H') {n : Nat} {B : Bk} {B' : Blk} (hB : nth H n = some B) (hB' : H'[n]? = some B') (hwr : B.wr = true) {ss : List Seg} {cs : List Value}
    (hss : repG ρ c.R ss cs) {x : Sc} {v : Value} (hv : repS ρ c.R x v) (h : Ψ ⟨rd1 x, setAt H n ⟨B.t, ss, true⟩, [n]⟩) (h1 : w'.heap[B'.b]? = some (.cells cs.toArray B'.t B'.fz)) (h2 : ∀ k, k ≠ B'.b → w'.heap[k]? = w.heap[k]?)
    (h3 : w'.heap.size = w.heap.size) (ho : w'.os = w.os) (ht : w'.tape = w.tape) (hu : w'.output = w.output) : Eff c ρ Ψ w v w' := by
  obtain ⟨B'', hB'', hrep, hid⟩ := hH.nth hB
  rw [hB'] at hB''
  cases hB''
  have hwr' : B'.wr = true := by rw [hrep.wr, hwr]
  have hgood := good_upd hw hB' hwr' h1 h2 h3 ho ht hu
  rw [setB_set _ _ _ _ hB'] at hgood
  refine ⟨_, ρ, _, h, fun _ _ hb => hb, hv, ⟨?_, ?_⟩, hgood, ?_, ?_⟩
  · rw [hH.ids]
    have hlt := (List.getElem?_eq_some_iff.1 hB').1
    have he := (List.getElem?_eq_some_iff.1 hB').2
    apply List.ext_getElem?
    intro i
    simp only [List.getElem?_map, List.getElem?_set]
    split
    · rename_i hni
      subst hni
      rw [hB']
      rfl
    · rfl
  · rw [setAt_eq]
    refine A2.set hH.bs (?_ : repB ρ c.R ⟨B.t, ss, true⟩ _) n
    exact ⟨hrep.t, hwr', hrep.fz, hss⟩
  · exact ⟨by rw [h3]; exact Nat.le_refl _, fun k hk hn => h2 k (fun e => hn ⟨n, by simp, by rw [hid, e]⟩), ho, ht, hu⟩
  · intro m b hm hb
    have := (List.getElem?_eq_some_iff.1 hb).1
    omega
/-- a block of its own, behind a draw -/
theorem eff_newD {Ψ : Rs → Prop} (hH : repH ρ c.R H H') {w : World} (hw : Z.Good c w H') {t : Nat} {ss : List Seg} {cs : List Value} {x : Sc} {v : Value} (hcs : repG ρ c.R ss cs) (h : Ψ ⟨rd1 x, H ++ [⟨t, ss, true⟩], []⟩)
    (hx : ∀ ρ' : List Nat, ρ'[Y.len H]? = some w.heap.size → repS ρ' c.R x v) : Eff c ρ Ψ w v (w.drew.alloc (.cells cs.toArray t)) := by
  have hd : Z.Good c w.drew H' := hw.drawn _
  obtain ⟨rs, ρ', H1', a1, a2, a3, a4, a5, a6, a7⟩ := eff_new (w := w.drew) (v := v) hH hd hcs h hx
  exact ⟨rs, ρ', H1', a1, a2, a3, a4, a5, ⟨a6.size, a6.block, a6.os, a6.tape, a6.output⟩, a7⟩
theorem cells1 {R : List Row} {id k : Nat} {l : List (Sh id)} {cs : List Value} (h : repG ρ R [.arr id k l] cs) : l.length = k ∧ A2 (repS ρ R) (l.flatMap (Sh.f id)) cs := ⟨h.1.1, by have := h.2; simpa [cellsOf] using this⟩
theorem newsO_sound (hH : repH ρ c.R H H') (hR : repR W c.R) {w : World} (hw : Z.Good c w H') {id s : Nat} (hs : Sh.sz id = s) {y : Sc} {v : Value} (hv : repS ρ c.R y v) {Φ : Nat × List (Sh id) → Prop} (h : (newsO H W id s y).all Φ) :
    ∃ (m : Nat) (nw : List (Sh id)) (ad : Addr) (cp : Nat) (news : List Value), v = .slice (some ad) m cp ∧ nw.length = m ∧ A2 (repS ρ c.R) (nw.flatMap (Sh.f id)) news ∧ (∀ j u, news[j]? = some u → w.cell? (ad.add j) = some u) ∧ Φ (m, nw) := by
  have hf := Sh.f_len id
  unfold newsO at h
  split at h
  · rename_i b sz eo m cap
    obtain ⟨B, hB, h⟩ := peel h
    obtain ⟨B', hB', hrep, hid⟩ := hH.nth hB
    split at h
    · rename_i _ id' k l hss
      obtain ⟨l', hl', h2⟩ := peel h
      clear h
      obtain ⟨rfl, e2⟩ := castL_eq hl'
      have e2 : l' = l := e2
      subst e2
      cases hq : Nat.beq sz s with
      | false => simp only [hq, cond_false] at h2; exact h2.elim
      | true =>
        simp only [hq, cond_true] at h2
        have hq := Nat.eq_of_beq_eq_true hq
        subst hq
        obtain ⟨ha, h⟩ := h2
        have h := h ha
        have hcs := hrep.cs
        rw [hss] at hcs
        obtain ⟨hlen, hcs⟩ := cells1 hcs
        obtain ⟨b', hb', rfl⟩ := hv
        rw [hid] at hb'
        cases hb'
        refine ⟨m, (l'.drop eo).take m, _, cap, (B'.cs.drop (eo * sz)).take (m * sz), rfl, by simp; omega, ?_, ?_, h⟩
        · rw [flat_tk (s := sz) (by rw [← hs]; exact hf), flat_dr (s := sz) (by rw [← hs]; exact hf)]
          exact (hcs.drop _).take _
        · intro j u hj
          rw [List.getElem?_take] at hj
          split at hj
          · rw [List.getElem?_drop] at hj
            have := hw.cell hB' hj
            rw [Addr.add_lit]; simpa using this
          · cases hj
    · exact h.elim
  · rename_i r sz eo m cap A
    obtain ⟨r0, hr0, h⟩ := peel h
    obtain ⟨id', l⟩ := r0
    obtain ⟨l', hl', h2⟩ := peel h
    clear h
    have e0 := castL_eq hl'
    simp only at e0
    obtain ⟨rfl, e2⟩ := e0
    have e2 : l' = l := e2
    subst e2
    cases hq : Nat.beq sz s with
    | false => simp only [hq, cond_false] at h2; exact h2.elim
    | true =>
      simp only [hq, cond_true] at h2
      have hq := Nat.eq_of_beq_eq_true hq
      subst hq
      obtain ⟨ha, h⟩ := h2
      have h := h ha
      obtain ⟨rfl, hA⟩ := hv
      obtain ⟨row, hrow, rfl⟩ := hA.resolve_left (by omega)
      rw [nth_eq] at hr0
      obtain ⟨row', hrow', hcs⟩ := hR.get hr0
      rw [hrow] at hrow'
      cases hrow'
      have hcs := hcs ρ c.R
      have hat := (hw.rows row (List.mem_of_getElem? hrow)).1
      refine ⟨m, (l'.drop eo).take m, _, cap, (row.cs.drop (eo * sz)).take (m * sz), rfl, by have := ha.2; simp at this ⊢; omega, ?_, ?_, h⟩
      · rw [flat_tk (s := sz) (by rw [← hs]; exact hf), flat_dr (s := sz) (by rw [← hs]; exact hf)]
        exact (hcs.drop _).take _
      · intro j u hj
        rw [List.getElem?_take] at hj
        split at hj
        · rw [List.getElem?_drop] at hj
          have := hat _ _ hj
          rw [Addr.add_lit]; simpa [Nat.add_assoc] using this
        · cases hj
  · exact h.elim
/-- a row grown into a block of its own -/
theorem grown_sound (hH : repH ρ c.R H H') {w : World} (hw : Z.Good c w H') {te id s n m : Nat} (hs : Sh.sz id = s) (hs0 : 0 < s) {ls nw : List (Sh id)} {Ψ : Rs → Prop} (h : (grownE H te id s n m ls nw).all Ψ) {zc : List Sc} {zv : List Value} {z0 : Sh id} (hz : Sh.un id zc = some z0) (hzv : A2 (repS ρ c.R) zc zv)
    (hln : ls.length = n) (hlm : nw.length = m) {olds news : List Value} (hol : A2 (repS ρ c.R) (ls.flatMap (Sh.f id)) olds) (hnw : A2 (repS ρ c.R) (nw.flatMap (Sh.f id)) news) {cap : Nat} (hcap : n + m ≤ cap) :
    Eff c ρ Ψ w (.slice (some ⟨w.heap.size, 0, none⟩) (n + m) cap) (w.drew.alloc (.cells (olds.toArray ++ news.toArray ++ Builtin.zeroCells zv.toArray (cap - (n + m))) te)) := by
  have hpad : A2 (repS ρ c.R) ((List.replicate (cap - (n + m)) z0).flatMap (Sh.f id)) (List.replicate (cap - (n + m)) zv).flatten := by
    have h1 := Sh.un_rep id hz hzv
    generalize cap - (n + m) = q
    induction q with
    | zero => exact .nil
    | succ q ih =>
      rw [List.replicate_succ, List.replicate_succ, List.flatMap_cons, List.flatten_cons]
      exact h1.app ih
  have hzc : (Builtin.zeroCells zv.toArray (cap - (n + m))).toList = (List.replicate (cap - (n + m)) zv).flatten := by
    unfold Builtin.zeroCells
    rw [Array.toList_map, Array.toList_range]
    exact flat_zero (cap - (n + m)) zv zv.length rfl (by rw [← (Sh.un_rep id hz hzv).len, Sh.f_len]; omega)
  have hall := h cap (ls ++ nw ++ List.replicate (cap - (n + m)) z0) ⟨hcap, by simp; omega, by rw [List.take_append_of_le_length (by simp; omega)]; exact List.take_of_length_le (by simp; omega)⟩
  have e : (olds.toArray ++ news.toArray ++ Builtin.zeroCells zv.toArray (cap - (n + m))) = (olds ++ news ++ (List.replicate (cap - (n + m)) zv).flatten).toArray := by
    apply Array.toList_inj.1
    simp [hzc]
  rw [e]
  refine eff_newD (x := .sl (Y.len H) 0 s 0 (n + m) cap) (ss := [.arr id cap (ls ++ nw ++ List.replicate (cap - (n + m)) z0)]) hH hw ⟨⟨by simp; omega, trivial⟩, ?_⟩ hall fun ρ' hρ => ⟨_, hρ, by simp⟩
  simp only [cellsOf, List.flatMap_append, List.append_nil]
  exact (hol.app hnw).app hpad
variable {cx : Ctx} (hcx : CtxOK P cx)
include hcx
theorem appE_sound (hH : repH ρ c.R H H') (hR : repR W c.R) {w : World} (hw : Z.Good c w H') {t : Nat} {x y : Sc} {u v : Value} (hu : repS ρ c.R x u) (hv : repS ρ c.R y v) {Ψ : Rs → Prop} (h : (appE cx H W t x y).all Ψ) (ty : TypeId) :
    ∃ v' w', (Builtin.append_ #[t, t] ty #[u, v]).run P w = .ok v' w' ∧ Eff c ρ Ψ w v' w' := by
  unfold appE at h
  obtain ⟨ti, hti, h⟩ := peel h
  split at h
  · rename_i te hd
    have hund := (hcx.ty _ _ hti).und
    rw [hd] at hund
    obtain ⟨el, hel, h1⟩ := peel h
    clear h
    obtain ⟨id, hid, h⟩ := peel h1
    clear h1
    obtain ⟨z, hz, h1⟩ := peel h
    clear h
    obtain ⟨zc, hzc, h⟩ := peel h1
    clear h1
    obtain ⟨z0, hz0, h1⟩ := peel h
    clear h
    cases hq : (Nat.beq (Sh.sz id) el.sz && Nat.blt 0 el.sz && Nat.ble el.sz 1024) with
    | false => simp only [hq, cond_false] at h1; exact h1.elim
    | true =>
    simp only [hq, cond_true] at h1
    simp only [Bool.and_eq_true] at hq
    have q1 := Nat.eq_of_beq_eq_true hq.1.1
    have q2 := blt_lt hq.1.2
    have q3 := Nat.le_of_ble_eq_true hq.2
    have hf := Sh.f_len id
    rw [q1] at hf
    obtain ⟨i, hi, hisz, hiby, hiz⟩ := (hcx.ty _ _ hel).info (w0 := w)
    obtain ⟨vz, hvz, hrz⟩ := hiz z hz
    obtain ⟨zv, hzv, hg⟩ := rep1.cells (hrz ρ c.R)
    have hzr := scOf_rep (v := vz) hzc hg
    obtain ⟨m, nw, ad, cp, news, rfl, hlm, hnw, hcell, h2⟩ := newsO_sound hH hR hw q1 hv (Tr.all_bind h1)
    clear h1
    have hnl : news.length = m * i.size := by rw [← hnw.len, flat_ln hf, hlm, hisz]
    have hb0 : i.bytes ≤ 32768 := by omega
    split at h2
    · -- none yet
      cases hu
      obtain ⟨ha, h⟩ := h2
      have h := h ha
      simp only at ha
      by_cases hm : m = 0
      · have hk := h.1 (by simp [hm])
        subst hm
        refine ⟨.slice none 0 0, w, ?_, _, ρ, H', hk, fun _ _ hb => hb, rfl, hH, hw, ⟨Nat.le_refl _, fun _ _ _ => rfl, rfl, rfl, rfl⟩, fun n b hn hb => by have := (List.getElem?_eq_some_iff.1 hb).1; omega⟩
        have hn : news = [] := List.eq_nil_of_length_eq_zero (by simpa using hnl)
        simp [Builtin.append_, run_underlying hund, sizeOf, typeInfo, hi, Builtin.lenOf, Builtin.firstCells, loadCells, loadCellsFrom]
      · have hk := h.2 (by simp [hm])
        have hby : m * i.bytes ≤ 65536 * 32768 := Nat.mul_le_mul ha hb0
        have hrun := run_append_nil (P := P) w t ty te i vz hund hi hvz ad m cp news hnl hcell (by omega) (by omega) (by omega)
        have hgc := grownCap_ge w m 0 te
        refine ⟨_, _, hrun, ?_⟩
        have hgs := grown_sound hH hw q1 q2 hk hz0 hzr rfl hlm (olds := []) .nil hnw (cap := grownCap w m 0 te) (by omega)
        simpa [hzv] using hgs
    · -- a block's
      rename_i b sz n cap
      obtain ⟨B, hB, h⟩ := peel h2
      clear h2
      obtain ⟨B', hB', hrep, hbid⟩ := hH.nth hB
      split at h
      · rename_i _ id' k l hss
        obtain ⟨l', hl', h2⟩ := peel h
        clear h
        obtain ⟨rfl, e2⟩ := castL_eq hl'
        have e2 : l' = l := e2
        subst e2
        cases hp : (Nat.beq sz el.sz && Nat.beq B.t te && B.wr) with
        | false => simp only [hp, cond_false] at h2; exact h2.elim
        | true =>
        simp only [hp, cond_true] at h2
        simp only [Bool.and_eq_true] at hp
        have p1 := Nat.eq_of_beq_eq_true hp.1.1
        have p2 := Nat.eq_of_beq_eq_true hp.1.2
        have p3 := hp.2
        subst p1
        obtain ⟨⟨a1, a2, a3⟩, h⟩ := h2
        have h := h ⟨a1, a2, a3⟩
        have hcs := hrep.cs
        rw [hss] at hcs
        obtain ⟨hlen, hcs⟩ := cells1 hcs
        obtain ⟨b', hb', rfl⟩ := hu
        rw [hbid] at hb'
        cases hb'
        have hcl : B'.cs.length = k * i.size := by rw [← hcs.len, flat_ln hf, hlen, hisz]
        have hhp := hw.has B' (List.mem_of_getElem? hB')
        rw [hrep.fz, hrep.t, p2] at hhp
        have hol : A2 (repS ρ c.R) ((l'.take n).flatMap (Sh.f id')) (B'.cs.take (n * i.size)) := by rw [flat_tk hf, hisz]; exact hcs.take _
        by_cases hroom : n + m ≤ cap
        · have hk := h.1 (by simpa using hroom)
          have hfit : n * i.size + news.length ≤ B'.cs.toArray.size := by
            rw [List.size_toArray, hcl, hnl, ← Nat.add_mul]; exact Nat.mul_le_mul_right _ (by omega)
          have hrun := run_append_room (P := P) w t ty te i hund hi B'.b n cap B'.cs.toArray hhp ad m cp news hnl hcell (fun u hu => plain_one (by
            obtain ⟨j, hj⟩ := List.getElem?_of_mem hu
            obtain ⟨_, _, hr⟩ := hnw.get' hj
            exact hr.plain)) hroom hfit
          simp only [Nat.zero_mul, Nat.add_zero] at hrun ⊢
          refine ⟨_, _, hrun, ?_⟩
          have hk := hk (l'.take n ++ nw ++ l'.drop (n + m)) ⟨by simp; omega, by rw [List.take_append_of_le_length (by simp; omega)]; exact List.take_of_length_le (by simp; omega)⟩
          have hrow := setRow_heap w B'.b B'.cs.toArray (B'.cs.toArray.toList.take (n * i.size) ++ news ++ B'.cs.toArray.toList.drop (n * i.size + news.length)).toArray te (0, 0) hhp
          refine eff_upd (x := .sl b 0 el.sz 0 (n + m) cap) hH hw hB hB' p3 (ss := [.arr id' k (l'.take n ++ nw ++ l'.drop (n + m))]) (cs := B'.cs.take (n * i.size) ++ news ++ B'.cs.drop (n * i.size + news.length)) ⟨⟨by simp; omega, trivial⟩, ?_⟩ ⟨_, hbid, by simp⟩ hk ?_ (fun q hq => setRow_other _ _ _ _ hq) (setRow_size _ _ _) rfl rfl rfl
          · simp only [cellsOf, List.flatMap_append, List.append_nil]
            refine (hol.app hnw).app ?_
            rw [flat_dr hf, hnl, ← Nat.add_mul, hisz]
            exact hcs.drop _
          · rw [hrow, hrep.t, hrep.fz, p2]
        · have hk := h.2 (by simpa using hroom)
          have hby : (n + m) * i.bytes ≤ 65536 * 32768 := Nat.mul_le_mul a3 hb0
          have hgc := grownCap_ge w (n + m) cap te
          have hl2 : (B'.cs.take (n * i.size)).length = n * i.size := by
            rw [List.length_take, hcl]; exact Nat.min_eq_left (Nat.mul_le_mul_right _ (by omega))
          have hrun := run_append_grow (P := P) w t ty te i vz hund hi hvz ⟨B'.b, 0, none⟩ n cap (B'.cs.take (n * i.size)) hl2 (fun j u hj => by
            rw [List.getElem?_take] at hj
            split at hj
            · rw [Addr.add_lit]; simpa using hw.cell hB' hj
            · cases hj) ad m cp news hnl hcell (by omega) (by omega) (growslice_fits (by omega) (by omega))
          simp only [Nat.zero_mul, Nat.add_zero] at hrun ⊢
          refine ⟨_, _, hrun, ?_⟩
          have hgs := grown_sound hH hw q1 q2 hk hz0 hzr (by simp; omega) hlm hol hnw (cap := grownCap w (n + m) cap te) (by omega)
          simpa [hzv] using hgs
      · exact h.elim
    · exact h2.elim
  · exact h.elim
end
end Go.Y
