/- More operations for generated walks; no program in sight. -/
import Derived.Test.YtdiieblgeaehpaaDoorEngJ
namespace Go.E
open Go Go.RowKit

theorem idx_lt {i : Int} {n : Nat} (h : 0 ≤ i ∧ i < (n : Int)) : i.toNat < n := by omega
theorem not_dec_t {p : Prop} [Decidable p] (h : (!decide p) = true) : ¬ p := by simpa using h
theorem not_dec_f {p : Prop} [Decidable p] (h : (!decide p) = false) : p := by simpa using h
theorem RowPtr.add {v : Value} {k : Nat} {p : Addr} (h : RowPtr v k p) (j : Nat) : RowPtr v (k + j) (p.add j) := by
  obtain ⟨b, o, s⟩ := p
  obtain ⟨h1, h2, h3⟩ := h
  simp only at h1 h2 h3
  subst h3
  exact ⟨by simpa [Addr.add_lit] using h1, by simp [Addr.add_lit, h2], by simp [Addr.add_lit]⟩

/-- Data without memory of its own. -/
def Plain {α : Type} (r : Rp α) : Prop := ∀ {H H' : PH} {x : α} {c : List Value}, r.rel H x c → r.rel H' x c
theorem plain_byte : Plain .byte := fun h => h
theorem plain_int {k : IntKind} : Plain (.int k) := fun h => h
theorem plain_bool : Plain .bool := fun h => h
theorem plain_st : Plain .st := fun h => h
theorem plain_pair {α β : Type} {r : Rp α} {s : Rp β} (h : Plain r) (k : Plain s) : Plain (.pair r s) := fun ⟨c1, c2, e, h1, h2⟩ => ⟨c1, c2, e, h h1, k h2⟩
theorem Elems.ofPlain {α : Type} {r : Rp α} (hp : Plain r) {H H' : PH} {l : List α} {cs : List Value} (h : Elems r H l cs) : Elems r H' l cs := by
  induction h with
  | nil => exact .nil
  | cons h _ ih => exact .cons (hp h) ih
theorem OwnH.ofPlain {α : Type} {e : TypeId} {r : Rp α} {H1 H2 : PH} {w w' : World} {v : Value} {l : List α} (h : OwnH e r H1 w w' v l) (hp : Plain r) : OwnH e r H2 w w' v l := by
  obtain ⟨xs, h1, h2⟩ := h
  exact ⟨xs, h1, h2.ofPlain hp⟩

section
variable {P : Program} {L : Env} {w : World} {x y z : Operand} {ty t t' t'' e : TypeId}
theorem wrap_u8 (a : UInt8) : IntKind.u8.wrap (a.toNat : Int) = (a.toNat : Int) := wrapU8 (by omega) (u8_lt a)
theorem conv_64_u8 (a : Int) : IntKind.u8.wrap a = ((Go.L.u8 a).toNat : Int) := by rw [wrapU8', Go.L.u8_toNat]
def ar8 : BinOp → UInt8 → UInt8 → Option UInt8
  | .add, a, b => some (a + b)
  | .sub, a, b => some (a - b)
  | .mul, a, b => some (a * b)
  | _, _, _ => none
theorem ar8_wrap {op : BinOp} {a b c : UInt8} (h : ar8 op a b = some c) : ∃ s, arI op (a.toNat : Int) (b.toNat : Int) = some s ∧ IntKind.u8.wrap s = (c.toNat : Int) := by
  have ha := a.toNat_lt
  have hb := b.toNat_lt
  cases op <;> simp only [ar8, Option.some.injEq, reduceCtorEq] at h <;> subst h
  · refine ⟨_, rfl, ?_⟩
    rw [wrapU8', UInt8.toNat_add]; omega
  · refine ⟨_, rfl, ?_⟩
    rw [wrapU8', UInt8.toNat_sub]; omega
  · refine ⟨_, rfl, ?_⟩
    rw [wrapU8', UInt8.toNat_mul, ← Int.natCast_mul]; omega
theorem r_ar8 {op : BinOp} {a b c : UInt8} (hx : ev L x = some (.int .u8 (a.toNat : Int))) (hy : ev L y = some (.int .u8 (b.toNat : Int))) (ho : ar8 op a b = some c) : RunsAt P L w (.binOp op t x y t') ty (.int .u8 (c.toNat : Int)) := by
  obtain ⟨s, h1, h2⟩ := ar8_wrap ho
  exact r_ar hx hy h1 h2
theorem r_bitI {op : BinOp} {c : Nat} {p q : Int} (hx : ev L x = some (.int .i64 p)) (hy : ev L y = some (.int .i64 q)) (ho : bitN op p.toNat q.toNat = some c) (h : (0 ≤ p ∧ p < 2 ^ 63) ∧ (0 ≤ q ∧ q < 2 ^ 63)) : RunsAt P L w (.binOp op t x y t') ty (.int .i64 (c : Int)) :=
  r_bit64 hx hy (by omega) (by omega) ho (by omega) (by omega)
theorem r_shr8 {a : UInt8} {c : Nat} {k' : IntKind} (hx : ev L x = some (.int .u8 (a.toNat : Int))) (hy : ev L y = some (.int k' (c : Int))) (hc : c < 8) : RunsAt P L w (.binOp .shr t x y t') ty (.int .u8 ((a >>> (UInt8.ofNat c)).toNat : Int)) := by
  have h := r_shr (P := P) (w := w) (t := t) (t' := t') (ty := ty) hx hy rfl (show c ≤ IntKind.u8.bits by simp [IntKind.bits]; omega)
  have e : (a.toNat : Int) / 2 ^ c = ((a >>> (UInt8.ofNat c)).toNat : Int) := by
    rw [UInt8.toNat_shiftRight, UInt8.toNat_ofNat', Nat.mod_eq_of_lt (show c < 2 ^ 8 by omega), Nat.mod_eq_of_lt hc, Nat.shiftRight_eq_div_pow]
    simp
  rw [e] at h
  exact h
theorem r_shrV {a c : Int} {k' : IntKind} (hx : ev L x = some (.int .i64 a)) (hy : ev L y = some (.int k' c)) (hc : 0 ≤ c ∧ c ≤ 63) : RunsAt P L w (.binOp .shr t x y t') ty (.int .i64 (a / 2 ^ c.toNat)) := by
  obtain ⟨m, rfl⟩ := Int.eq_ofNat_of_zero_le hc.1
  exact r_shr hx hy rfl (by simp [IntKind.bits]; omega)
theorem r_lenS {l : List UInt8} (hx : ev L x = some (.string ⟨l.toArray⟩)) (ht : P.underlying t = some .string) : RunsAt P L w (.call ⟨.builtin .len, #[x], #[t]⟩) ty (.int .i64 (l.length : Int)) := by
  intro w' _ ρ hρ dst pos af g
  have : (ByteArray.mk l.toArray).size = l.length := by simp [ByteArray.size]
  simp [execOp, resolve, hρ x _ hx, invoke, builtin, Builtin.len_, run_underlying ht, goInt, this]
theorem r_sne {l m : List UInt8} (hx : ev L x = some (.string ⟨l.toArray⟩)) (hy : ev L y = some (.string ⟨m.toArray⟩)) : RunsAt P L w (.binOp .neq t x y t') ty (.bool (!decide (l = m))) := by
  intro w' _ ρ hρ dst pos af g
  have e : (l == m) = decide (l = m) := by rw [Bool.eq_iff_iff]; simp
  simp [execOp, hρ x _ hx, hρ y _ hy, eqGuard, binOp, Op.stringOp, e]
theorem r_slt {l m : List UInt8} (hx : ev L x = some (.string ⟨l.toArray⟩)) (hy : ev L y = some (.string ⟨m.toArray⟩)) : RunsAt P L w (.binOp .lss t x y t') ty (.bool (Op.bytesLess l m)) := by
  intro w' _ ρ hρ dst pos af g
  simp [execOp, hρ x _ hx, hρ y _ hy, eqGuard, binOp, Op.stringOp]
theorem r_sle {l m : List UInt8} (hx : ev L x = some (.string ⟨l.toArray⟩)) (hy : ev L y = some (.string ⟨m.toArray⟩)) : RunsAt P L w (.binOp .leq t x y t') ty (.bool (Op.bytesLess l m || decide (l = m))) := by
  intro w' _ ρ hρ dst pos af g
  have e : (l == m) = decide (l = m) := by rw [Bool.eq_iff_iff]; simp
  simp [execOp, hρ x _ hx, hρ y _ hy, eqGuard, binOp, Op.stringOp, e]
theorem r_cat {l m : List UInt8} (hx : ev L x = some (.string ⟨l.toArray⟩)) (hy : ev L y = some (.string ⟨m.toArray⟩)) (h : l.length + m.length ≤ 9223372036854775807) : RunsAt P L w (.binOp .add t x y t') ty (.string ⟨(l ++ m).toArray⟩) := by
  intro w' _ ρ hρ dst pos af g
  have e1 : (ByteArray.mk l.toArray).size = l.length := by simp [ByteArray.size]
  have e2 : (ByteArray.mk m.toArray).size = m.length := by simp [ByteArray.size]
  have e3 : ByteArray.mk l.toArray ++ ByteArray.mk m.toArray = ByteArray.mk (l ++ m).toArray := by
    apply ByteArray.ext
    simp
  have e4 : ¬ (IntKind.i64.max < ((l.length + m.length : Nat) : Int)) := by
    have : IntKind.i64.max = 9223372036854775807 := by decide
    omega
  simp only [execOp, hρ x _ hx, hρ y _ hy, eqGuard, binOp, Op.stringOp, e1, e2, e3]
  simp
  omega
theorem r_min {a b : Int} (hx : ev L x = some (.int .i64 a)) (hy : ev L y = some (.int .i64 b)) : RunsAt P L w (.call ⟨.builtin .min, #[x, y], #[t, t']⟩) ty (.int .i64 (min a b)) := by
  intro w' _ ρ hρ dst pos af g
  simp [execOp, resolve, hρ x _ hx, hρ y _ hy, invoke, builtin, Builtin.min_, Builtin.min2]
  by_cases h : b < a
  · simp [h, show min a b = b by omega]
  · simp [h, show min a b = a by omega]
theorem r_min3 {a b c : Int} (hx : ev L x = some (.int .i64 a)) (hy : ev L y = some (.int .i64 b)) (hz : ev L z = some (.int .i64 c)) : RunsAt P L w (.call ⟨.builtin .min, #[x, y, z], #[t, t', t'']⟩) ty (.int .i64 (min (min a b) c)) := by
  intro w' _ ρ hρ dst pos af g
  simp [execOp, resolve, hρ x _ hx, hρ y _ hy, hρ z _ hz, invoke, builtin, Builtin.min_, Builtin.min2]
  by_cases h : b < a
  · by_cases h' : c < b
    · simp [h, h']; omega
    · simp [h, h']; omega
  · by_cases h' : c < a
    · simp [h, h']; omega
    · simp [h, h']; omega
end

section
variable {P : Program} {n : Sz} {ops : Array Oper} {Q : Exit → Act → World → Prop} {L : Env} {w w0 : World} {O : List Res} {rest : List Oper} {lop : List Oper} {ix : Nat} {tr : Tr}
  {d : Nat} {ty : TypeId} {pos : String} {af : Array Edge} {α : Type} {r : Rp α} {x a b : Operand} {v : Value} {t e : TypeId} {H : PH} {l : List α} {k k' : IntKind} {i j : Int} {zz : Value} {bt : Nat}
theorem S_sliceB (hx : ev L x = some v) (ha : ev L a = some (.int k i)) (hb : ev L b = some (.int k' j)) (ht : P.underlying t = some (.slice e)) (he : Zr P e zz r.sz bt) (hv : Vec r H v l) (hc : 0 ≤ i ∧ i ≤ j ∧ j ≤ (l.length : Int)) (hn : Nat.blt d n.n = true)
    (h : ∀ v', Vec r H v' ((l.drop i.toNat).take (j.toNat - i.toNat)) → S P n ops Q rest ((d, v') :: L) w) : S P n ops Q (⟨some d, .slice t x (some a) (some b) none, ty, pos, af, none⟩ :: rest) L w :=
  S_slice hx ht he hv i.toNat j.toNat ⟨k, by rw [Int.toNat_of_nonneg (by omega)]; exact ha⟩ ⟨k', by rw [Int.toNat_of_nonneg (by omega)]; exact hb⟩ (by omega) hn h
theorem S_sliceL (hx : ev L x = some v) (ha : ev L a = some (.int k i)) (ht : P.underlying t = some (.slice e)) (he : Zr P e zz r.sz bt) (hv : Vec r H v l) (hc : 0 ≤ i ∧ i ≤ (l.length : Int)) (hn : Nat.blt d n.n = true)
    (h : ∀ v', Vec r H v' (l.drop i.toNat) → S P n ops Q rest ((d, v') :: L) w) : S P n ops Q (⟨some d, .slice t x (some a) none none, ty, pos, af, none⟩ :: rest) L w :=
  S_slice hx ht he hv i.toNat l.length ⟨k, by rw [Int.toNat_of_nonneg (by omega)]; exact ha⟩ rfl (by omega) hn fun v' h' => h v' (by rwa [List.take_of_length_le (by simp)] at h')
theorem S_sliceH (hx : ev L x = some v) (hb : ev L b = some (.int k' j)) (ht : P.underlying t = some (.slice e)) (he : Zr P e zz r.sz bt) (hv : Vec r H v l) (hc : 0 ≤ j ∧ j ≤ (l.length : Int)) (hn : Nat.blt d n.n = true)
    (h : ∀ v', Vec r H v' (l.take j.toNat) → S P n ops Q rest ((d, v') :: L) w) : S P n ops Q (⟨some d, .slice t x none (some b) none, ty, pos, af, none⟩ :: rest) L w :=
  S_slice hx ht he hv 0 j.toNat rfl ⟨k', by rw [Int.toNat_of_nonneg (by omega)]; exact hb⟩ (by omega) hn fun v' h' => h v' (by simpa using h')
theorem S_sliceN (hx : ev L x = some v) (ht : P.underlying t = some (.slice e)) (he : Zr P e zz r.sz bt) (hv : Vec r H v l) (hn : Nat.blt d n.n = true)
    (h : ∀ v', Vec r H v' l → S P n ops Q rest ((d, v') :: L) w) : S P n ops Q (⟨some d, .slice t x none none none, ty, pos, af, none⟩ :: rest) L w :=
  S_slice hx ht he hv 0 l.length rfl rfl (by omega) hn fun v' h' => h v' (by simpa using h')
theorem D_sliceB (ho : nthO lop ix = some ⟨some d, .slice t x (some a) (some b) none, ty, pos, af, none⟩) (hx : ev L x = some v) (ha : ev L a = some (.int k i)) (hb : ev L b = some (.int k' j)) (ht : P.underlying t = some (.slice e)) (he : Zr P e zz r.sz bt) (hv : Vec r H v l) (hc : 0 ≤ i ∧ i ≤ j ∧ j ≤ (l.length : Int)) (hn : Nat.blt d n.n = true)
    (h : ∀ v', Vec r H v' ((l.drop i.toNat).take (j.toNat - i.toNat)) → D P n lop Q tr ((d, v') :: L) w) : D P n lop Q (.q ix tr) L w :=
  D_slice ho hx ht he hv i.toNat j.toNat ⟨k, by rw [Int.toNat_of_nonneg (by omega)]; exact ha⟩ ⟨k', by rw [Int.toNat_of_nonneg (by omega)]; exact hb⟩ (by omega) hn h
theorem D_sliceL (ho : nthO lop ix = some ⟨some d, .slice t x (some a) none none, ty, pos, af, none⟩) (hx : ev L x = some v) (ha : ev L a = some (.int k i)) (ht : P.underlying t = some (.slice e)) (he : Zr P e zz r.sz bt) (hv : Vec r H v l) (hc : 0 ≤ i ∧ i ≤ (l.length : Int)) (hn : Nat.blt d n.n = true)
    (h : ∀ v', Vec r H v' (l.drop i.toNat) → D P n lop Q tr ((d, v') :: L) w) : D P n lop Q (.q ix tr) L w :=
  D_slice ho hx ht he hv i.toNat l.length ⟨k, by rw [Int.toNat_of_nonneg (by omega)]; exact ha⟩ rfl (by omega) hn fun v' h' => h v' (by rwa [List.take_of_length_le (by simp)] at h')
theorem D_sliceH (ho : nthO lop ix = some ⟨some d, .slice t x none (some b) none, ty, pos, af, none⟩) (hx : ev L x = some v) (hb : ev L b = some (.int k' j)) (ht : P.underlying t = some (.slice e)) (he : Zr P e zz r.sz bt) (hv : Vec r H v l) (hc : 0 ≤ j ∧ j ≤ (l.length : Int)) (hn : Nat.blt d n.n = true)
    (h : ∀ v', Vec r H v' (l.take j.toNat) → D P n lop Q tr ((d, v') :: L) w) : D P n lop Q (.q ix tr) L w :=
  D_slice ho hx ht he hv 0 j.toNat rfl ⟨k', by rw [Int.toNat_of_nonneg (by omega)]; exact hb⟩ (by omega) hn fun v' h' => h v' (by simpa using h')
theorem D_sliceN (ho : nthO lop ix = some ⟨some d, .slice t x none none none, ty, pos, af, none⟩) (hx : ev L x = some v) (ht : P.underlying t = some (.slice e)) (he : Zr P e zz r.sz bt) (hv : Vec r H v l) (hn : Nat.blt d n.n = true)
    (h : ∀ v', Vec r H v' l → D P n lop Q tr ((d, v') :: L) w) : D P n lop Q (.q ix tr) L w :=
  D_slice ho hx ht he hv 0 l.length rfl rfl (by omega) hn fun v' h' => h v' (by simpa using h')
theorem D_alloc {z : Value} {sz : Nat} {cs : List Value} (ho : nthO lop ix = some ⟨some d, .alloc t, ty, pos, af, none⟩) (hz : Zr P t z sz bt) (hc : z.cells.toList = cs) (hn : Nat.blt d n.n = true) (hL : Lcl w0 O w)
    (h : ∀ w' b, Lcl w0 (.box b cs t :: O) w' → Le (fz w O) (fz w' (.box b cs t :: O)) → D P n lop Q tr ((d, .pointer (some ⟨b, 0, none⟩)) :: L) w') : D P n lop Q (.h ix tr) L w := by
  subst hc
  refine D_hop (R := fun w1 u w' => u = .pointer (some ⟨w1.heap.size, 0, none⟩) ∧ w' = w1.alloc (.cells z.cells.toList.toArray t)) ho hn (fun w1 hx1 ρ hρ => ?_) (fun w1 u w' hx1 hx2 hR => ?_)
  · refine ⟨_, _, run_alloc hz w1 ρ _ rfl, ext_alloc _ _, rfl, by simp⟩
  · obtain ⟨rfl, rfl⟩ := hR
    have hL1 := hL.call hx1
    exact h _ _ (box_new hL1) ((fz_ext hL hx1).trans (box_newLe hL1))
end
end Go.E
