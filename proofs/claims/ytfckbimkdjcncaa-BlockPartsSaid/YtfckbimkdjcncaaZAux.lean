/- Small laws that the printed proofs name. Generic in the program. -/
import Derived.Test.YtfckbimkdjcncaaZStep
set_option linter.unusedSimpArgs false
set_option linter.unusedVariables false
namespace Go.Z
theorem wI64 {z : Int} (h : -9223372036854775808 ≤ z ∧ z ≤ 9223372036854775807) : IntKind.i64.wrap z = z := by
  simp only [IntKind.wrap, IntKind.bits, IntKind.signed]
  simp
  omega
theorem wU32 (z : Int) : IntKind.u32.wrap z = z % 4294967296 := IntKind.wrap_u32' z
theorem wU8 (z : Int) : IntKind.u8.wrap z = z % 256 := IntKind.wrap_u8' z
theorem wU32i {z : Int} (h : 0 ≤ z ∧ z < 4294967296) : IntKind.u32.wrap z = z := by rw [wU32]; omega
theorem wU8i {z : Int} (h : 0 ≤ z ∧ z < 256) : IntKind.u8.wrap z = z := by rw [wU8]; omega
def sg (a : Int) : Int := if a < 2147483648 then a else a - 4294967296
theorem wI32u {a : Int} (h : 0 ≤ a ∧ a < 4294967296) : IntKind.i32.wrap a = sg a := by
  unfold sg
  simp only [IntKind.wrap, IntKind.bits, IntKind.signed]
  simp
  omega
theorem land_mask (m k : Nat) : m &&& (2 ^ k - 1) = m % 2 ^ k := Nat.and_two_pow_sub_one_eq_mod m k
theorem bits_and_nat {kd : IntKind} (hs : kd.signed = false) {m n : Nat} (hm : m < 2 ^ kd.bits) (hn : n < 2 ^ kd.bits) : bits .and kd (m : Int) (n : Int) = ((m &&& n : Nat) : Int) := by
  have h1 : (BitVec.ofInt kd.bits (m : Int)).toNat = m := by rw [BitVec.ofInt_natCast, BitVec.toNat_ofNat]; exact Nat.mod_eq_of_lt hm
  have h2 : (BitVec.ofInt kd.bits (n : Int)).toNat = n := by rw [BitVec.ofInt_natCast, BitVec.toNat_ofNat]; exact Nat.mod_eq_of_lt hn
  have hx : m &&& n < 2 ^ kd.bits := Nat.and_lt_two_pow _ hn
  show kd.wrap ((BitVec.ofInt kd.bits (m : Int) &&& BitVec.ofInt kd.bits (n : Int)).toNat : Int) = _
  rw [BitVec.toNat_and, h1, h2]
  simp only [IntKind.wrap, hs]
  have hpos : (0 : Int) ≤ ((m &&& n : Nat) : Int) := Int.natCast_nonneg _
  have : ((m &&& n : Nat) : Int) % (2 ^ kd.bits : Int) = ((m &&& n : Nat) : Int) := Int.emod_eq_of_lt hpos (by exact_mod_cast hx)
  simpa using this
theorem bMask_u32 (k : Nat) (hk : k ≤ 32) {m : Int} (hm : 0 ≤ m ∧ m < 4294967296) : bits .and .u32 m ((2 : Int) ^ k - 1) = m % (2 : Int) ^ k := by
  obtain ⟨M, rfl⟩ := Int.eq_ofNat_of_zero_le hm.1
  have h0 : 0 < 2 ^ k := Nat.pos_of_ne_zero (by simp)
  have e : ((2 : Int) ^ k - 1) = ((2 ^ k - 1 : Nat) : Int) := by
    rw [Int.ofNat_sub h0]; simp
  have hle : 2 ^ k ≤ 2 ^ 32 := Nat.pow_le_pow_right (by omega) hk
  rw [e, bits_and_nat rfl (by show M < 2 ^ 32; omega) (by show 2 ^ k - 1 < 2 ^ 32; omega), land_mask]
  simp
theorem bMask_u8 (k : Nat) (hk : k ≤ 8) {m : Int} (hm : 0 ≤ m ∧ m < 256) : bits .and .u8 m ((2 : Int) ^ k - 1) = m % (2 : Int) ^ k := by
  obtain ⟨M, rfl⟩ := Int.eq_ofNat_of_zero_le hm.1
  have h0 : 0 < 2 ^ k := Nat.pos_of_ne_zero (by simp)
  have e : ((2 : Int) ^ k - 1) = ((2 ^ k - 1 : Nat) : Int) := by
    rw [Int.ofNat_sub h0]; simp
  have hle : 2 ^ k ≤ 2 ^ 8 := Nat.pow_le_pow_right (by omega) hk
  rw [e, bits_and_nat rfl (by show M < 2 ^ 8; omega) (by show 2 ^ k - 1 < 2 ^ 8; omega), land_mask]
  simp
/-- of an int, whatever its sign: the lowest bits -/
theorem bMask_i64 (k : Nat) (hk : k < 63) {m : Int} : bits .and .i64 m ((2 : Int) ^ k - 1) = m % (2 : Int) ^ k := by
  have h0 : 0 < 2 ^ k := Nat.pos_of_ne_zero (by simp)
  have hle : 2 ^ k ≤ 2 ^ 62 := Nat.pow_le_pow_right (by omega) (by omega)
  have e : ((2 : Int) ^ k - 1) = ((2 ^ k - 1 : Nat) : Int) := by
    rw [Int.ofNat_sub h0]; simp
  rw [e]
  show IntKind.i64.wrap ((BitVec.ofInt 64 m &&& BitVec.ofInt 64 ((2 ^ k - 1 : Nat) : Int)).toNat : Int) = _
  have h2 : (BitVec.ofInt 64 ((2 ^ k - 1 : Nat) : Int)).toNat = 2 ^ k - 1 := by
    rw [BitVec.ofInt_natCast, BitVec.toNat_ofNat]; exact Nat.mod_eq_of_lt (by omega)
  rw [BitVec.toNat_and, h2, land_mask, BitVec.toNat_ofInt]
  have hdvd : (2 ^ k : Nat) ∣ 2 ^ 64 := Nat.pow_dvd_pow 2 (by omega)
  have h3 : (((m % (2 ^ 64 : Nat)).toNat % 2 ^ k : Nat) : Int) = m % (2 : Int) ^ k := by
    have hnn : 0 ≤ m % ((2 ^ 64 : Nat) : Int) := Int.emod_nonneg _ (by simp)
    rw [Int.natCast_emod, Int.toNat_of_nonneg hnn]
    have hd2 : ((2 ^ k : Nat) : Int) ∣ ((2 ^ 64 : Nat) : Int) := by exact_mod_cast hdvd
    rw [Int.emod_emod_of_dvd _ hd2]
    simp
  rw [h3]
  refine wI64 ⟨?_, ?_⟩
  · have : 0 ≤ m % (2 : Int) ^ k := Int.emod_nonneg _ (by have : (0 : Int) < 2 ^ k := by exact_mod_cast h0
                                                          omega)
    omega
  · have : m % (2 : Int) ^ k < (2 : Int) ^ k := Int.emod_lt_of_pos _ (by exact_mod_cast h0)
    have h4 : (2 : Int) ^ k ≤ (2 : Int) ^ 62 := by exact_mod_cast hle
    have h5 : ((2 : Int) ^ 62) = 4611686018427387904 := by decide
    omega
theorem bM_u32 (k : Nat) {m q p : Int} (hk : k ≤ 32) (hp : (2 : Int) ^ k = p) (hq : q = p - 1) (hm : 0 ≤ m ∧ m < 4294967296) : bits .and .u32 m q = m % p := by rw [hq, ← hp]; exact bMask_u32 k hk hm
theorem bM_u8 (k : Nat) {m q p : Int} (hk : k ≤ 8) (hp : (2 : Int) ^ k = p) (hq : q = p - 1) (hm : 0 ≤ m ∧ m < 256) : bits .and .u8 m q = m % p := by rw [hq, ← hp]; exact bMask_u8 k hk hm
theorem bM_i64 (k : Nat) {m q p : Int} (hk : k < 63) (hp : (2 : Int) ^ k = p) (hq : q = p - 1) : bits .and .i64 m q = m % p := by rw [hq, ← hp]; exact bMask_i64 k hk
theorem shl_u32 {m n p : Int} (hp : (2 : Int) ^ min n.toNat IntKind.u32.bits = p) : IntKind.u32.wrap (m * 2 ^ min n.toNat IntKind.u32.bits) = m * p % 4294967296 := by rw [hp, wU32]
theorem shr_any {k : IntKind} {m n p : Int} (hp : (2 : Int) ^ min n.toNat k.bits = p) : m.fdiv (2 ^ min n.toNat k.bits) = m / p := by
  have h : (0 : Int) < 2 ^ min n.toNat k.bits := Int.pow_pos (by omega)
  rw [Int.fdiv_eq_ediv_of_nonneg _ (Int.le_of_lt h), hp]
theorem shr_u32 {m n p : Int} (hp : (2 : Int) ^ min n.toNat IntKind.u32.bits = p) : m.fdiv (2 ^ min n.toNat IntKind.u32.bits) = m / p := shr_any hp
theorem shr_i64 {m n p : Int} (hp : (2 : Int) ^ min n.toNat IntKind.i64.bits = p) : m.fdiv (2 ^ min n.toNat IntKind.i64.bits) = m / p := shr_any hp
theorem shr_i32 {m n p : Int} (hp : (2 : Int) ^ min n.toNat IntKind.i32.bits = p) : m.fdiv (2 ^ min n.toNat IntKind.i32.bits) = m / p := shr_any hp
theorem pickT {α : Type} {b : Bool} {u v : α} (h : b = true) : (if b then u else v) = u := by rw [h]; rfl
theorem pickF {α : Type} {b : Bool} {u v : α} (h : b = false) : (if b then u else v) = v := by rw [h]; rfl
theorem shlV_u32 {m n : Int} (h : n ≤ 32) : IntKind.u32.wrap (m * 2 ^ min n.toNat IntKind.u32.bits) = m * 2 ^ n.toNat % 4294967296 := by
  rw [show min n.toNat IntKind.u32.bits = n.toNat from Nat.min_eq_left (by show n.toNat ≤ 32; omega), wU32]
theorem shrV {k : IntKind} {m n : Int} (h : n ≤ k.bits) : m.fdiv (2 ^ min n.toNat k.bits) = m / 2 ^ n.toNat := by
  have h0 : (0 : Int) < 2 ^ n.toNat := Int.pow_pos (by omega)
  rw [show min n.toNat k.bits = n.toNat from Nat.min_eq_left (by omega), Int.fdiv_eq_ediv_of_nonneg _ (Int.le_of_lt h0)]
theorem or_add (x y k : Nat) (hx : x % 2 ^ k = 0) (hy : y < 2 ^ k) : x ||| y = x + y := by
  have h1 : x = 2 ^ k * (x / 2 ^ k) := by
    have := Nat.div_add_mod x (2 ^ k)
    omega
  rw [h1, Nat.two_pow_add_eq_or_of_lt hy]
theorem bits_or_nat {kd : IntKind} (hs : kd.signed = false) {m n : Nat} (hm : m < 2 ^ kd.bits) (hn : n < 2 ^ kd.bits) : bits .or kd (m : Int) (n : Int) = ((m ||| n : Nat) : Int) := by
  have h1 : (BitVec.ofInt kd.bits (m : Int)).toNat = m := by rw [BitVec.ofInt_natCast, BitVec.toNat_ofNat]; exact Nat.mod_eq_of_lt hm
  have h2 : (BitVec.ofInt kd.bits (n : Int)).toNat = n := by rw [BitVec.ofInt_natCast, BitVec.toNat_ofNat]; exact Nat.mod_eq_of_lt hn
  have hx : m ||| n < 2 ^ kd.bits := Nat.or_lt_two_pow hm hn
  show kd.wrap ((BitVec.ofInt kd.bits (m : Int) ||| BitVec.ofInt kd.bits (n : Int)).toNat : Int) = _
  rw [BitVec.toNat_or, h1, h2]
  simp only [IntKind.wrap, hs]
  have hpos : (0 : Int) ≤ ((m ||| n : Nat) : Int) := Int.natCast_nonneg _
  have : ((m ||| n : Nat) : Int) % (2 ^ kd.bits : Int) = ((m ||| n : Nat) : Int) := Int.emod_eq_of_lt hpos (by exact_mod_cast hx)
  simpa using this
theorem bits_xor_nat {kd : IntKind} (hs : kd.signed = false) {m n : Nat} (hm : m < 2 ^ kd.bits) (hn : n < 2 ^ kd.bits) : bits .xor kd (m : Int) (n : Int) = ((m ^^^ n : Nat) : Int) := by
  have h1 : (BitVec.ofInt kd.bits (m : Int)).toNat = m := by rw [BitVec.ofInt_natCast, BitVec.toNat_ofNat]; exact Nat.mod_eq_of_lt hm
  have h2 : (BitVec.ofInt kd.bits (n : Int)).toNat = n := by rw [BitVec.ofInt_natCast, BitVec.toNat_ofNat]; exact Nat.mod_eq_of_lt hn
  have hx : m ^^^ n < 2 ^ kd.bits := Nat.xor_lt_two_pow hm hn
  show kd.wrap ((BitVec.ofInt kd.bits (m : Int) ^^^ BitVec.ofInt kd.bits (n : Int)).toNat : Int) = _
  rw [BitVec.toNat_xor, h1, h2]
  simp only [IntKind.wrap, hs]
  have hpos : (0 : Int) ≤ ((m ^^^ n : Nat) : Int) := Int.natCast_nonneg _
  have : ((m ^^^ n : Nat) : Int) % (2 ^ kd.bits : Int) = ((m ^^^ n : Nat) : Int) := Int.emod_eq_of_lt hpos (by exact_mod_cast hx)
  simpa using this
/-- a word's bits beside another one's -/
theorem bOr_u32 (k : Nat) {x y p : Int} (hk : k ≤ 32) (hp : (2 : Int) ^ k = p) (hx : 0 ≤ x ∧ x < 4294967296) (hm : x % p = 0) (hy : 0 ≤ y ∧ y < p) : bits .or .u32 x y = x + y := by
  subst hp
  obtain ⟨X, rfl⟩ := Int.eq_ofNat_of_zero_le hx.1
  obtain ⟨Y, rfl⟩ := Int.eq_ofNat_of_zero_le hy.1
  have hY : Y < 2 ^ k := by have := hy.2; exact_mod_cast this
  have hX : X % 2 ^ k = 0 := by exact_mod_cast hm
  have hle : 2 ^ k ≤ 2 ^ 32 := Nat.pow_le_pow_right (by omega) hk
  rw [bits_or_nat rfl (by show X < 2 ^ 32; omega) (by show Y < 2 ^ 32; omega), or_add X Y k hX hY]
  simp
def band (a b : Int) : Int := ((a.toNat &&& b.toNat : Nat) : Int)
def bor (a b : Int) : Int := ((a.toNat ||| b.toNat : Nat) : Int)
def bxor (a b : Int) : Int := ((a.toNat ^^^ b.toNat : Nat) : Int)
abbrev U32 (a : Int) : Prop := 0 ≤ a ∧ a < 4294967296
theorem band_eq {a b : Int} (ha : U32 a) (hb : U32 b) : bits .and .u32 a b = band a b := by
  obtain ⟨A, rfl⟩ := Int.eq_ofNat_of_zero_le ha.1
  obtain ⟨B, rfl⟩ := Int.eq_ofNat_of_zero_le hb.1
  exact bits_and_nat rfl (by show A < 2 ^ 32; have := ha.2; omega) (by show B < 2 ^ 32; have := hb.2; omega)
theorem bor_eq {a b : Int} (ha : U32 a) (hb : U32 b) : bits .or .u32 a b = bor a b := by
  obtain ⟨A, rfl⟩ := Int.eq_ofNat_of_zero_le ha.1
  obtain ⟨B, rfl⟩ := Int.eq_ofNat_of_zero_le hb.1
  exact bits_or_nat rfl (by show A < 2 ^ 32; have := ha.2; omega) (by show B < 2 ^ 32; have := hb.2; omega)
theorem bxor_eq {a b : Int} (ha : U32 a) (hb : U32 b) : bits .xor .u32 a b = bxor a b := by
  obtain ⟨A, rfl⟩ := Int.eq_ofNat_of_zero_le ha.1
  obtain ⟨B, rfl⟩ := Int.eq_ofNat_of_zero_le hb.1
  exact bits_xor_nat rfl (by show A < 2 ^ 32; have := ha.2; omega) (by show B < 2 ^ 32; have := hb.2; omega)
theorem band_u32 {a b : Int} (ha : U32 a) : U32 (band a b) := by
  have h1 : a.toNat &&& b.toNat ≤ a.toNat := Nat.and_le_left
  have := ha.1; have := ha.2
  unfold band U32
  omega
theorem bor_u32 {a b : Int} (ha : U32 a) (hb : U32 b) : U32 (bor a b) := by
  have h1 : a.toNat ||| b.toNat < 2 ^ 32 := Nat.or_lt_two_pow (by have := ha.2; omega) (by have := hb.2; omega)
  unfold bor U32
  omega
theorem bxor_u32 {a b : Int} (ha : U32 a) (hb : U32 b) : U32 (bxor a b) := by
  have h1 : a.toNat ^^^ b.toNat < 2 ^ 32 := Nat.xor_lt_two_pow (by have := ha.2; omega) (by have := hb.2; omega)
  unfold bxor U32
  omega
theorem compl_u32 {a : Int} (ha : U32 a) : bits .xor .u32 (if IntKind.u32.signed then -1 else IntKind.u32.max) a = 4294967295 - a := by
  obtain ⟨A, rfl⟩ := Int.eq_ofNat_of_zero_le ha.1
  have hA : A < 4294967296 := by have := ha.2; omega
  have e : (if IntKind.u32.signed then -1 else IntKind.u32.max : Int) = ((4294967295 : Nat) : Int) := by decide
  rw [e, bits_xor_nat rfl (by decide) (by show A < 2 ^ 32; omega)]
  have h1 : 4294967295 ^^^ A = 4294967295 - A := by
    have h2 : (4294967295 : Nat) ^^^ A = (~~~ (BitVec.ofNat 32 A)).toNat := by
      rw [← BitVec.allOnes_xor]
      simp [BitVec.toNat_xor, Nat.mod_eq_of_lt hA]
    rw [h2, BitVec.toNat_not]
    simp [Nat.mod_eq_of_lt hA]
  rw [h1]
  omega
theorem dS {d N : Nat} (h : Nat.blt d N = true) : ∀ t, some d = some t → Nat.blt t N = true := fun _ e => by cases e; exact h
theorem dN {N : Nat} : ∀ t, (none : Option Nat) = some t → Nat.blt t N = true := fun _ e => by cases e
section
variable {P : Program} {c : Cx} {ops : Array Oper} {Q : Exit → Act → World → Prop} {K : Act → World → Prop} {S : Tn} {N : Nat} {e : Env} {H : List Blk}
theorem TL.hitQP {o : Array Oper} {is : List Nat} {A B : List Blk} (ht : takeB is H = some (A, B)) : TL P c o (AtQ c N e H) N [] e (A ++ B) := fun _ _ ha hw => ⟨ha, hw.perm (takeB_perm ht).symm⟩
theorem apart_of {w : World} {m : List Bool} {H' : List Blk} (_ : Good c w H) (hm : maskB m H = H') {U : List Nat} (hU : ∀ x ∈ H', x.b ∉ U) : ∀ x ∈ H', x.b ∉ U := by
  subst hm
  exact hU
theorem TL.split {l : List Oper} {s : Nat} {b : Bool} (_ : lk e s = some (.bool b)) (ht : b = true → TL P c ops Q N l e H) (hf : b = false → TL P c ops Q N l e H) : TL P c ops Q N l e H := by
  cases b
  · exact hf rfl
  · exact ht rfl
/-- one block's cells, written otherwise -/
theorem setC_eq {i : Nat} {B : Blk} (cs' : List Value) (hB : H[i]? = some B) (hc : B.cs = cs') : setB H i cs' = H := by
  subst hc
  exact setB_id hB
theorem TL.setC (i : Nat) {l : List Oper} {B : Blk} (cs' : List Value) (hB : H[i]? = some B) (hc : B.cs = cs') (h : TL P c ops Q N l e (setB H i cs')) : TL P c ops Q N l e H := setC_eq cs' hB hc ▸ h
theorem TC.setC (i : Nat) {x : Code} {B : Blk} (cs' : List Value) (hB : H[i]? = some B) (hc : B.cs = cs') (h : TC P c Q N x e (setB H i cs')) : TC P c Q N x e H := setC_eq cs' hB hc ▸ h
theorem TE.setC (i : Nat) {x : Exit} {B : Blk} (cs' : List Value) (hB : H[i]? = some B) (hc : B.cs = cs') (h : TE c Q N x e (setB H i cs')) : TE c Q N x e H := setC_eq cs' hB hc ▸ h
theorem TD.setC (i : Nat) {pl : Plan} {B : Blk} (cs' : List Value) (hB : H[i]? = some B) (hc : B.cs = cs') (h : TD P c ops K S N pl e (setB H i cs')) : TD P c ops K S N pl e H := setC_eq cs' hB hc ▸ h
/-- a short circuit: both ways come together again -/
theorem TL.join (k : Nat) (ks : List Nat) {l : List Oper} {s d : Nat} {b xT xF : Bool} {ek : Env} (_ : lk e s = some (.bool b)) (_ : sel e ks = some ek)
    (hT : b = true → TL P c ops Q N (l.drop k) ((d, .bool xT) :: ek) H → TL P c ops Q N l e H) (hF : b = false → TL P c ops Q N (l.drop k) ((d, .bool xF) :: ek) H → TL P c ops Q N l e H)
    (h : TL P c ops Q N (l.drop k) ((d, .bool (bif b then xT else xF)) :: ek) H) : TL P c ops Q N l e H := by
  cases b
  · exact hF rfl h
  · exact hT rfl h
def Plan.drop : Nat → Plan → Plan
  | 0, p => p
  | n + 1, .take _ _ r => r.drop n
  | n + 1, .one _ r => r.drop n
  | _ + 1, p => p
theorem TD.keepSlots {pl : Plan} {e' : Env} (ks : List Nat) (hk : sel e ks = some e') (h : TD P c ops K S N pl e' H) : TD P c ops K S N pl e H :=
  fun f l ho hs a w ha hw hn => h f l ho hs a w (ha.weaken (sel_lk hk)) hw hn
theorem TD.join (k : Nat) (ks : List Nat) {pl : Plan} {s d : Nat} {b xT xF : Bool} {ek : Env} (_ : lk e s = some (.bool b)) (_ : sel e ks = some ek)
    (hT : b = true → TD P c ops K S N (pl.drop k) ((d, .bool xT) :: ek) H → TD P c ops K S N pl e H) (hF : b = false → TD P c ops K S N (pl.drop k) ((d, .bool xF) :: ek) H → TD P c ops K S N pl e H)
    (h : TD P c ops K S N (pl.drop k) ((d, .bool (bif b then xT else xF)) :: ek) H) : TD P c ops K S N pl e H := by
  cases b
  · exact hF rfl h
  · exact hT rfl h
theorem TD.split {pl : Plan} {s : Nat} {b : Bool} (_ : lk e s = some (.bool b)) (ht : b = true → TD P c ops K S N pl e H) (hf : b = false → TD P c ops K S N pl e H) : TD P c ops K S N pl e H := by
  cases b
  · exact hf rfl
  · exact ht rfl
theorem TE.retAM (m : List Bool) {fn : Func} {K : Value → List Blk → Prop} {rv : ResultVar} {v : Value} {H' : List Blk} (hr : fn.results = #[rv]) (h1 : ResAt P e H rv v) (hm : maskB m H = H') (hK : K v H') : TE c (bodyPost P fn (Ends c K)) N .ret e H := fun a w ha hw => by
  refine ⟨ha.defers, v, ?_, v, H', rfl, hK, hw.heap_of (hm ▸ maskB_sub m H)⟩
  unfold results
  rw [hr]
  exact mapM1 (resSem a.tmps) (h1.run ha hw)
theorem TE.retABM (m : List Bool) {fn : Func} {K : Value → List Blk → Prop} {rv rv' : ResultVar} {v v' : Value} {H' : List Blk} (hr : fn.results = #[rv, rv']) (h1 : ResAt P e H rv v) (h2 : ResAt P e H rv' v') (hm : maskB m H = H') (hK : K (.tuple #[v, v']) H') : TE c (bodyPost P fn (Ends c K)) N .ret e H := fun a w ha hw => by
  refine ⟨ha.defers, .tuple #[v, v'], ?_, .tuple #[v, v'], H', rfl, hK, hw.heap_of (hm ▸ maskB_sub m H)⟩
  unfold results
  rw [hr]
  exact mapM2 (resSem a.tmps) (h1.run ha hw) (h2.run ha hw)
theorem TE.retABCM (m : List Bool) {fn : Func} {K : Value → List Blk → Prop} {rv rv' rv'' : ResultVar} {v v' v'' : Value} {H' : List Blk} (hr : fn.results = #[rv, rv', rv'']) (h1 : ResAt P e H rv v) (h2 : ResAt P e H rv' v') (h3 : ResAt P e H rv'' v'') (hm : maskB m H = H') (hK : K (.tuple #[v, v', v'']) H') :
    TE c (bodyPost P fn (Ends c K)) N .ret e H := fun a w ha hw => by
  refine ⟨ha.defers, .tuple #[v, v', v''], ?_, .tuple #[v, v', v''], H', rfl, hK, hw.heap_of (hm ▸ maskB_sub m H)⟩
  unfold results
  rw [hr]
  exact mapM3 (resSem a.tmps) (h1.run ha hw) (h2.run ha hw) (h3.run ha hw)
theorem TE.ret0M (m : List Bool) {fn : Func} {K : Value → List Blk → Prop} {x : Exit} {H' : List Blk} (hx : x = .ret ∨ x = .normal) (hr : fn.results = #[]) (hm : maskB m H = H') (hK : K (.tuple #[]) H') : TE c (bodyPost P fn (Ends c K)) N x e H :=
  TE.mask m hm (TE.ret0 hx hr hK)
theorem Fits.setV {a : Act} {s : Nat} {v v' : Value} (h : Fits N a e) (hs : lk e s = some v) (hv : v = v') : Fits N a (upd e s v') :=
  h.weaken fun t u ht => by
    subst hv
    by_cases hst : s = t
    · subst hst
      rw [lk_upd_eq] at ht
      rw [hs]
      exact ht
    · rwa [lk_upd_ne _ _ hst] at ht
theorem TE.setI (s : Nat) {x : Exit} {k : IntKind} {q : Int} (q' : Int) (hs : lk e s = some (.int k q)) (hq : q = q') (h : TE c Q N x (upd e s (.int k q')) H) : TE c Q N x e H := fun a w ha hw => h a w (ha.setV hs (by rw [hq])) hw
theorem TC.setI (s : Nat) {x : Code} {k : IntKind} {q : Int} (q' : Int) (hs : lk e s = some (.int k q)) (hq : q = q') (h : TC P c Q N x (upd e s (.int k q')) H) : TC P c Q N x e H := fun a w ha hw => h a w (ha.setV hs (by rw [hq])) hw
theorem TL.setI (s : Nat) {l : List Oper} {k : IntKind} {q : Int} (q' : Int) (hs : lk e s = some (.int k q)) (hq : q = q') (h : TL P c ops Q N l (upd e s (.int k q')) H) : TL P c ops Q N l e H := fun a w ha hw => h a w (ha.setV hs (by rw [hq])) hw
theorem TE.setB (s : Nat) {x : Exit} {q : Bool} (q' : Bool) (hs : lk e s = some (.bool q)) (hq : q = q') (h : TE c Q N x (upd e s (.bool q')) H) : TE c Q N x e H := fun a w ha hw => h a w (ha.setV hs (by rw [hq])) hw
theorem TL.setB (s : Nat) {l : List Oper} {q : Bool} (q' : Bool) (hs : lk e s = some (.bool q)) (hq : q = q') (h : TL P c ops Q N l (upd e s (.bool q')) H) : TL P c ops Q N l e H := fun a w ha hw => h a w (ha.setV hs (by rw [hq])) hw
theorem TE.setV (s : Nat) {x : Exit} {v : Value} (v' : Value) (hs : lk e s = some v) (hq : v = v') (h : TE c Q N x (upd e s v') H) : TE c Q N x e H := fun a w ha hw => h a w (ha.setV hs hq) hw
theorem TL.setV (s : Nat) {l : List Oper} {v : Value} (v' : Value) (hs : lk e s = some v) (hq : v = v') (h : TL P c ops Q N l (upd e s v') H) : TL P c ops Q N l e H := fun a w ha hw => h a w (ha.setV hs hq) hw
/-- the blocks, written otherwise -/
theorem TL.setH {l : List Oper} {H' : List Blk} (hH : H = H') (h : TL P c ops Q N l e H') : TL P c ops Q N l e H := hH ▸ h
theorem TE.setH {x : Exit} {H' : List Blk} (hH : H = H') (h : TE c Q N x e H') : TE c Q N x e H := hH ▸ h
theorem TC.setH {x : Code} {H' : List Blk} (hH : H = H') (h : TC P c Q N x e H') : TC P c Q N x e H := hH ▸ h
theorem TD.setH {pl : Plan} {H' : List Blk} (hH : H = H') (h : TD P c ops K S N pl e H') : TD P c ops K S N pl e H := hH ▸ h
theorem TD.setI (s : Nat) {pl : Plan} {k : IntKind} {q : Int} (q' : Int) (hs : lk e s = some (.int k q)) (hq : q = q') (h : TD P c ops K S N pl (upd e s (.int k q')) H) : TD P c ops K S N pl e H := fun f l ho hs2 a w ha hw hn => h f l ho hs2 a w (ha.setV hs (by rw [hq])) hw hn
/-- an element of a row that is only read -/
theorem TL.loadRowN {rest : List Oper} {d : Nat} {t : TypeId} {p : String} {af : Array Edge} {x : Operand} {b o ty n j : Nat} (r : Row) {vs : List Value} (hx : ev e x = some (.pointer (some ⟨b, o, none⟩))) (hr : r ∈ c.R) (hb : r.b = b) (ho : r.off + j = o) (hL : Agg P ty n) (hvs : (r.cs.drop j).take n = vs) (hn : vs.length = n) (hd : Nat.blt d N = true)
    (h : TL P c ops Q N rest (upd e d (.agg vs.toArray)) H) : TL P c ops Q N (⟨some d, .load ty x, t, p, af, none⟩ :: rest) e H :=
  TL.value' hd (fun a w ha hw => by
    subst hb ho
    have hc := run_loadCells_list (P := P) (w := w) (⟨r.b, r.off + j, none⟩ : Addr) vs (fun q v hq => by
      have hqn : q < n := by rw [← hn]; exact (List.getElem?_eq_some_iff.1 hq).1
      have h1 : r.cs[j + q]? = some v := by rw [← hvs, List.getElem?_take, if_pos hqn, List.getElem?_drop] at hq; exact hq
      have h2 := (hw.rows r hr).1 (j + q) v h1
      unfold Addr.add
      split
      · rename_i h0; subst h0; simpa using h2
      · rw [show r.off + j + q = r.off + (j + q) by omega]; exact h2)
    rw [hn] at hc
    simp [execOp, ha.ev hx, Instr.loadAt, Instr.sureAddr, loadVar, (hL w).1, (hL w).2, hc]) h
theorem TL.loadRow1 {rest : List Oper} {d : Nat} {t : TypeId} {p : String} {af : Array Edge} {x : Operand} {b o ty j : Nat} (r : Row) {v : Value} (hx : ev e x = some (.pointer (some ⟨b, o, none⟩))) (hr : r ∈ c.R) (hb : r.b = b) (ho : r.off + j = o) (hL : One P ty) (hv : r.cs[j]? = some v) (hd : Nat.blt d N = true)
    (h : TL P c ops Q N rest (upd e d v) H) : TL P c ops Q N (⟨some d, .load ty x, t, p, af, none⟩ :: rest) e H :=
  TL.value' hd (fun a w ha hw => by
    subst hb ho
    simp [execOp, ha.ev hx, Instr.loadAt, Instr.sureAddr, loadVar, (hL w).1, (hw.rows r hr).1 j v hv]) h
/-- a slice of cells that lie in a row -/
def SlAt (A : Option Addr) (cs : List Value) (R : List Row) : Prop := cs ≠ [] → ∃ b o, A = some ⟨b, o, none⟩ ∧ (⟨b, o, cs⟩ : Row) ∈ R
def u32s (r : List Int) : List Value := r.map (Value.int .u32)
def rg (r : List Int) (i : Int) : Int := r.getD i.toNat 0
structure Regs (r : List Int) : Prop where
  len : r.length = 32
  ok : ∀ x ∈ r, U32 x
theorem Regs.get {r : List Int} (h : Regs r) {i : Int} (hi : 0 ≤ i ∧ i < 32) : U32 (rg r i) := by
  have hlt : i.toNat < r.length := by rw [h.len]; omega
  unfold rg
  rw [List.getD_eq_getElem?_getD, List.getElem?_eq_getElem hlt]
  exact h.ok _ (List.getElem_mem hlt)
theorem Regs.set {r : List Int} (h : Regs r) (i : Nat) {v : Int} (hv : U32 v) : Regs (r.set i v) :=
  ⟨by simp [h.len], fun x hx => by
    rcases List.mem_or_eq_of_mem_set hx with hx | rfl
    · exact h.ok x hx
    · exact hv⟩
theorem u32s_length (r : List Int) : (u32s r).length = r.length := by simp [u32s]
theorem u32s_get {r : List Int} (h : Regs r) {i : Int} (hi : 0 ≤ i ∧ i < 32) : (u32s r)[0 + i.toNat * 1]? = some (.int .u32 (rg r i)) := by
  have hlt : i.toNat < r.length := by rw [h.len]; omega
  simp [u32s, rg, hlt]
theorem setL_u32s {r : List Int} (k : Nat) (v : Int) : setL (u32s r) (0 + k * 1) [.int .u32 v] = u32s (r.set k v) := by
  simp [setL, u32s, List.map_set]
theorem u32s_all {r : List Int} (h : Regs r) : ((u32s r).drop 0).take 32 = u32s r := by
  rw [List.drop_zero, List.take_of_length_le (by rw [u32s_length, h.len]; omega)]
theorem setL_all : ∀ (vs cs : List Value), vs.length = cs.length → setL cs 0 vs = vs := by
  have key : ∀ (vs cs pre : List Value), vs.length = cs.length → setL (pre ++ cs) pre.length vs = pre ++ vs := by
    intro vs
    induction vs with
    | nil =>
      intro cs pre h
      have : cs = [] := List.length_eq_zero_iff.1 h.symm
      simp [setL, this]
    | cons v r ih =>
      intro cs pre h
      match cs, h with
      | x :: xs, h =>
        simp only [List.length_cons, Nat.add_right_cancel_iff] at h
        have := ih xs (pre ++ [v]) h
        simp only [setL]
        simpa using this
  intro vs cs h
  simpa using key vs cs [] h
theorem plain_u32s (r : List Int) : (u32s r).all plainV = true := by simp [u32s, plainV]
theorem run_eqBool {xt : TypeId} {u v : Bool} {w : World} (hT : P.underlying xt = some .bool) : (Op.equal xt (.bool u) (.bool v)).run P w = .ok (u == v) w := by
  have key : ∀ dd, (Op.equalIn (dd + 1) xt (.bool u) (.bool v)).run P w = .ok (u == v) w := fun dd => by simp [Op.equalIn, underlying, hT]
  exact key 9999
theorem TL.eqlBool {rest : List Oper} {d : Nat} {t : TypeId} {p : String} {af : Array Edge} {x y : Operand} {u v : Bool} {xt yt : TypeId} (hx : ev e x = some (.bool u)) (hy : ev e y = some (.bool v)) (hT : P.underlying xt = some .bool) (hd : Nat.blt d N = true)
    (h : TL P c ops Q N rest (upd e d (.bool (u == v))) H) : TL P c ops Q N (⟨some d, .binOp .eql xt x y yt, t, p, af, none⟩ :: rest) e H :=
  TL.value' hd (fun a w ha _ => by simp [execOp, ha.ev hx, ha.ev hy, eqGuard, binOp, run_eqBool hT]) h
theorem TL.neqBool {rest : List Oper} {d : Nat} {t : TypeId} {p : String} {af : Array Edge} {x y : Operand} {u v : Bool} {xt yt : TypeId} (hx : ev e x = some (.bool u)) (hy : ev e y = some (.bool v)) (hT : P.underlying xt = some .bool) (hd : Nat.blt d N = true)
    (h : TL P c ops Q N rest (upd e d (.bool (!(u == v)))) H) : TL P c ops Q N (⟨some d, .binOp .neq xt x y yt, t, p, af, none⟩ :: rest) e H :=
  TL.value' hd (fun a w ha _ => by simp [execOp, ha.ev hx, ha.ev hy, eqGuard, binOp, run_eqBool hT]) h
end
/-- what is asked of truths, as sentences on numbers -/
theorem u32s_take {r : List Int} {n : Nat} (h : r.length = n) : ((u32s r).drop 0).take n = u32s r := by
  rw [List.drop_zero, List.take_of_length_le (by rw [u32s_length]; omega)]
theorem u32s_len {r : List Int} {n : Nat} (h : r.length = n) : (u32s r).length = n := by rw [u32s_length, h]
theorem strB (s u : ByteArray) : (s.data.toList == u.data.toList) = decide (s = u) := by
  rw [Bool.eq_iff_iff, beq_iff_eq, decide_eq_true_eq]
  refine ⟨fun h => ?_, fun h => by rw [h]⟩
  cases s
  cases u
  simp only [ByteArray.mk.injEq]
  exact Array.toList_inj.1 h
end Go.Z
