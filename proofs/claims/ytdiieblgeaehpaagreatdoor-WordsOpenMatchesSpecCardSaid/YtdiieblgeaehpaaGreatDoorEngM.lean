/- More operations for generated walks; no program in sight. -/
import Derived.Test.YtdiieblgeaehpaaGreatDoorEngJ
namespace Go.E
open Go Go.RowKit
theorem idx_lt {i : Int} {n : Nat} (h : 0 ≤ i ∧ i < (n : Int)) : i.toNat < n := by omega
theorem not_dec_t {p : Prop} [Decidable p] (h : (!decide p) = true) : ¬ p := by simpa using h
theorem not_dec_f {p : Prop} [Decidable p] (h : (!decide p) = false) : p := by simpa using h
theorem RowPtr.add {v : Value} {k : Nat} {p : Addr} (h : RowPtr v k p) (j : Nat) : RowPtr v (k + j) (p.add j) := by
  obtain ⟨b, o, s⟩ := p
  obtain ⟨h1, h2, h3⟩ := h
  simp only at h1 h2 h3
  subst h3
  exact ⟨by simpa [Addr.add_lit] using h1, by simp [Addr.add_lit, h2], by simp [Addr.add_lit]⟩
/-- Data without memory of its own. -/
def Plain {α : Type} (r : Rp α) : Prop := ∀ {H H' : PH} {x : α} {c : List Value}, r.rel H x c → r.rel H' x c
theorem plain_byte : Plain .byte := fun h => h
theorem plain_int {k : IntKind} : Plain (.int k) := fun h => h
theorem plain_st : Plain .st := fun h => h
theorem plain_pair {α β : Type} {r : Rp α} {s : Rp β} (h : Plain r) (k : Plain s) : Plain (.pair r s) := fun ⟨c1, c2, e, h1, h2⟩ => ⟨c1, c2, e, h h1, k h2⟩
theorem Elems.ofPlain {α : Type} {r : Rp α} (hp : Plain r) {H H' : PH} {l : List α} {cs : List Value} (h : Elems r H l cs) : Elems r H' l cs := by
  induction h with
  | nil => exact .nil
  | cons h _ ih => exact .cons (hp h) ih
theorem OwnH.ofPlain {α : Type} {e : TypeId} {r : Rp α} {H1 H2 : PH} {w w' : World} {v : Value} {l : List α} (h : OwnH e r H1 w w' v l) (hp : Plain r) : OwnH e r H2 w w' v l := by
  obtain ⟨xs, h1, h2⟩ := h
  exact ⟨xs, h1, h2.ofPlain hp⟩
section
variable {P : Program} {L : Env} {w : World} {x y z : Operand} {ty t t' t'' e : TypeId}
theorem conv_64_u8 (a : Int) : IntKind.u8.wrap a = ((Go.L.u8 a).toNat : Int) := by rw [wrapU8', Go.L.u8_toNat]
def ar8 : BinOp → UInt8 → UInt8 → Option UInt8
  | .add, a, b => some (a + b)
  | .sub, a, b => some (a - b)
  | .mul, a, b => some (a * b)
  | _, _, _ => none
theorem ar8_wrap {op : BinOp} {a b c : UInt8} (h : ar8 op a b = some c) : ∃ s, arI op (a.toNat : Int) (b.toNat : Int) = some s ∧ IntKind.u8.wrap s = (c.toNat : Int) := by
  have ha := a.toNat_lt
  have hb := b.toNat_lt
  cases op <;> simp only [ar8, Option.some.injEq, reduceCtorEq] at h <;> subst h
  · refine ⟨_, rfl, ?_⟩
    rw [wrapU8', UInt8.toNat_add]; omega
  · refine ⟨_, rfl, ?_⟩
    rw [wrapU8', UInt8.toNat_sub]; omega
  · refine ⟨_, rfl, ?_⟩
    rw [wrapU8', UInt8.toNat_mul, ← Int.natCast_mul]; omega
theorem r_ar8 {op : BinOp} {a b c : UInt8} (hx : ev L x = some (.int .u8 (a.toNat : Int))) (hy : ev L y = some (.int .u8 (b.toNat : Int))) (ho : ar8 op a b = some c) : RunsAt P L w (.binOp op t x y t') ty (.int .u8 (c.toNat : Int)) := by
  obtain ⟨s, h1, h2⟩ := ar8_wrap ho
  exact r_ar hx hy h1 h2
theorem r_bitI {op : BinOp} {c : Nat} {p q : Int} (hx : ev L x = some (.int .i64 p)) (hy : ev L y = some (.int .i64 q)) (ho : bitN op p.toNat q.toNat = some c) (h : (0 ≤ p ∧ p < 2 ^ 63) ∧ (0 ≤ q ∧ q < 2 ^ 63)) : RunsAt P L w (.binOp op t x y t') ty (.int .i64 (c : Int)) :=
  r_bit64 hx hy (by omega) (by omega) ho (by omega) (by omega)
theorem r_shr8 {a : UInt8} {c : Nat} {k' : IntKind} (hx : ev L x = some (.int .u8 (a.toNat : Int))) (hy : ev L y = some (.int k' (c : Int))) (hc : c < 8) : RunsAt P L w (.binOp .shr t x y t') ty (.int .u8 ((a >>> (UInt8.ofNat c)).toNat : Int)) := by
  have h := r_shr (P := P) (w := w) (t := t) (t' := t') (ty := ty) hx hy rfl (show c ≤ IntKind.u8.bits by simp [IntKind.bits]; omega)
  have e : (a.toNat : Int) / 2 ^ c = ((a >>> (UInt8.ofNat c)).toNat : Int) := by
    rw [UInt8.toNat_shiftRight, UInt8.toNat_ofNat', Nat.mod_eq_of_lt (show c < 2 ^ 8 by omega), Nat.mod_eq_of_lt hc, Nat.shiftRight_eq_div_pow]
    simp
  rw [e] at h
  exact h
theorem r_shrV {a c : Int} {k' : IntKind} (hx : ev L x = some (.int .i64 a)) (hy : ev L y = some (.int k' c)) (hc : 0 ≤ c ∧ c ≤ 63) : RunsAt P L w (.binOp .shr t x y t') ty (.int .i64 (a / 2 ^ c.toNat)) := by
  obtain ⟨m, rfl⟩ := Int.eq_ofNat_of_zero_le hc.1
  exact r_shr hx hy rfl (by simp [IntKind.bits]; omega)
theorem r_lenS {l : List UInt8} (hx : ev L x = some (.string ⟨l.toArray⟩)) (ht : P.underlying t = some .string) : RunsAt P L w (.call ⟨.builtin .len, #[x], #[t]⟩) ty (.int .i64 (l.length : Int)) := by
  intro w' _ ρ hρ dst pos af g
  have : (ByteArray.mk l.toArray).size = l.length := by simp [ByteArray.size]
  simp [execOp, resolve, hρ x _ hx, invoke, builtin, Builtin.len_, run_underlying ht, goInt, this]
theorem r_sne {l m : List UInt8} (hx : ev L x = some (.string ⟨l.toArray⟩)) (hy : ev L y = some (.string ⟨m.toArray⟩)) : RunsAt P L w (.binOp .neq t x y t') ty (.bool (!decide (l = m))) := by
  intro w' _ ρ hρ dst pos af g
  have e : (l == m) = decide (l = m) := by rw [Bool.eq_iff_iff]; simp
  simp [execOp, hρ x _ hx, hρ y _ hy, eqGuard, binOp, Op.stringOp, e]
theorem r_slt {l m : List UInt8} (hx : ev L x = some (.string ⟨l.toArray⟩)) (hy : ev L y = some (.string ⟨m.toArray⟩)) : RunsAt P L w (.binOp .lss t x y t') ty (.bool (Op.bytesLess l m)) := by
  intro w' _ ρ hρ dst pos af g
  simp [execOp, hρ x _ hx, hρ y _ hy, eqGuard, binOp, Op.stringOp]
theorem r_sle {l m : List UInt8} (hx : ev L x = some (.string ⟨l.toArray⟩)) (hy : ev L y = some (.string ⟨m.toArray⟩)) : RunsAt P L w (.binOp .leq t x y t') ty (.bool (Op.bytesLess l m || decide (l = m))) := by
  intro w' _ ρ hρ dst pos af g
  have e : (l == m) = decide (l = m) := by rw [Bool.eq_iff_iff]; simp
  simp [execOp, hρ x _ hx, hρ y _ hy, eqGuard, binOp, Op.stringOp, e]
theorem r_sge {l m : List UInt8} (hx : ev L x = some (.string ⟨l.toArray⟩)) (hy : ev L y = some (.string ⟨m.toArray⟩)) : RunsAt P L w (.binOp .geq t x y t') ty (.bool (!Op.bytesLess l m)) := by
  intro w' _ ρ hρ dst pos af g
  simp [execOp, hρ x _ hx, hρ y _ hy, eqGuard, binOp, Op.stringOp]
theorem r_cat {l m : List UInt8} (hx : ev L x = some (.string ⟨l.toArray⟩)) (hy : ev L y = some (.string ⟨m.toArray⟩)) (h : l.length + m.length ≤ 9223372036854775807) : RunsAt P L w (.binOp .add t x y t') ty (.string ⟨(l ++ m).toArray⟩) := by
  intro w' _ ρ hρ dst pos af g
  have e1 : (ByteArray.mk l.toArray).size = l.length := by simp [ByteArray.size]
  have e2 : (ByteArray.mk m.toArray).size = m.length := by simp [ByteArray.size]
  have e3 : ByteArray.mk l.toArray ++ ByteArray.mk m.toArray = ByteArray.mk (l ++ m).toArray := by
    apply ByteArray.ext
    simp
  have e4 : ¬ (IntKind.i64.max < ((l.length + m.length : Nat) : Int)) := by
    have : IntKind.i64.max = 9223372036854775807 := by decide
    omega
  simp only [execOp, hρ x _ hx, hρ y _ hy, eqGuard, binOp, Op.stringOp, e1, e2, e3]
  simp
  omega
end
section
variable {P : Program} {n : Sz} {ops : Array Oper} {Q : Exit → Act → World → Prop} {L : Env} {w w0 : World} {O : List Res} {rest : List Oper} {lop : List Oper} {ix : Nat} {tr : Tr}
  {d : Nat} {ty : TypeId} {pos : String} {af : Array Edge} {α : Type} {r : Rp α} {x a b : Operand} {v : Value} {t e : TypeId} {H : PH} {l : List α} {k k' : IntKind} {i j : Int} {zz : Value} {bt : Nat}
theorem S_sliceB (hx : ev L x = some v) (ha : ev L a = some (.int k i)) (hb : ev L b = some (.int k' j)) (ht : P.underlying t = some (.slice e)) (he : Zr P e zz r.sz bt) (hv : Vec r H v l) (hc : 0 ≤ i ∧ i ≤ j ∧ j ≤ (l.length : Int)) (hn : Nat.blt d n.n = true)
    (h : ∀ v', Vec r H v' ((l.drop i.toNat).take (j.toNat - i.toNat)) → S P n ops Q rest ((d, v') :: L) w) : S P n ops Q (⟨some d, .slice t x (some a) (some b) none, ty, pos, af, none⟩ :: rest) L w :=
  S_slice hx ht he hv i.toNat j.toNat ⟨k, by rw [Int.toNat_of_nonneg (by omega)]; exact ha⟩ ⟨k', by rw [Int.toNat_of_nonneg (by omega)]; exact hb⟩ (by omega) hn h
theorem S_sliceL (hx : ev L x = some v) (ha : ev L a = some (.int k i)) (ht : P.underlying t = some (.slice e)) (he : Zr P e zz r.sz bt) (hv : Vec r H v l) (hc : 0 ≤ i ∧ i ≤ (l.length : Int)) (hn : Nat.blt d n.n = true)
    (h : ∀ v', Vec r H v' (l.drop i.toNat) → S P n ops Q rest ((d, v') :: L) w) : S P n ops Q (⟨some d, .slice t x (some a) none none, ty, pos, af, none⟩ :: rest) L w :=
  S_slice hx ht he hv i.toNat l.length ⟨k, by rw [Int.toNat_of_nonneg (by omega)]; exact ha⟩ rfl (by omega) hn fun v' h' => h v' (by rwa [List.take_of_length_le (by simp)] at h')
theorem S_sliceH (hx : ev L x = some v) (hb : ev L b = some (.int k' j)) (ht : P.underlying t = some (.slice e)) (he : Zr P e zz r.sz bt) (hv : Vec r H v l) (hc : 0 ≤ j ∧ j ≤ (l.length : Int)) (hn : Nat.blt d n.n = true)
    (h : ∀ v', Vec r H v' (l.take j.toNat) → S P n ops Q rest ((d, v') :: L) w) : S P n ops Q (⟨some d, .slice t x none (some b) none, ty, pos, af, none⟩ :: rest) L w :=
  S_slice hx ht he hv 0 j.toNat rfl ⟨k', by rw [Int.toNat_of_nonneg (by omega)]; exact hb⟩ (by omega) hn fun v' h' => h v' (by simpa using h')
theorem D_sliceB (ho : nthO lop ix = some ⟨some d, .slice t x (some a) (some b) none, ty, pos, af, none⟩) (hx : ev L x = some v) (ha : ev L a = some (.int k i)) (hb : ev L b = some (.int k' j)) (ht : P.underlying t = some (.slice e)) (he : Zr P e zz r.sz bt) (hv : Vec r H v l) (hc : 0 ≤ i ∧ i ≤ j ∧ j ≤ (l.length : Int)) (hn : Nat.blt d n.n = true)
    (h : ∀ v', Vec r H v' ((l.drop i.toNat).take (j.toNat - i.toNat)) → D P n lop Q tr ((d, v') :: L) w) : D P n lop Q (.q ix tr) L w :=
  D_slice ho hx ht he hv i.toNat j.toNat ⟨k, by rw [Int.toNat_of_nonneg (by omega)]; exact ha⟩ ⟨k', by rw [Int.toNat_of_nonneg (by omega)]; exact hb⟩ (by omega) hn h
theorem D_alloc {z : Value} {sz : Nat} {cs : List Value} (ho : nthO lop ix = some ⟨some d, .alloc t, ty, pos, af, none⟩) (hz : Zr P t z sz bt) (hc : z.cells.toList = cs) (hn : Nat.blt d n.n = true) (hL : Lcl w0 O w)
    (h : ∀ w' b, Lcl w0 (.box b cs t :: O) w' → Le (fz w O) (fz w' (.box b cs t :: O)) → D P n lop Q tr ((d, .pointer (some ⟨b, 0, none⟩)) :: L) w') : D P n lop Q (.h ix tr) L w := by
  subst hc
  refine D_hop (R := fun w1 u w' => u = .pointer (some ⟨w1.heap.size, 0, none⟩) ∧ w' = w1.alloc (.cells z.cells.toList.toArray t)) ho hn (fun w1 hx1 ρ hρ => ?_) (fun w1 u w' hx1 hx2 hR => ?_)
  · refine ⟨_, _, run_alloc hz w1 ρ _ rfl, ext_alloc _ _, rfl, by simp⟩
  · obtain ⟨rfl, rfl⟩ := hR
    have hL1 := hL.call hx1
    exact h _ _ (box_new hL1) ((fz_ext hL hx1).trans (box_newLe hL1))
end
end Go.E
namespace Go.E
open Go Go.RowKit
theorem Elems.c1 {α : Type} {r : Rp α} {H : PH} {x : α} {l : List α} {u0 : Value} {cs : List Value} (h : r.rel H x [u0]) (t : Elems r H l cs) : Elems r H (x :: l) (u0 :: cs) := .cons (c := [u0]) h t
theorem Elems.c2 {α : Type} {r : Rp α} {H : PH} {x : α} {l : List α} {u0 u1 : Value} {cs : List Value} (h : r.rel H x [u0, u1]) (t : Elems r H l cs) : Elems r H (x :: l) (u0 :: u1 :: cs) := .cons (c := [u0, u1]) h t
theorem Elems.c3 {α : Type} {r : Rp α} {H : PH} {x : α} {l : List α} {u0 u1 u2 : Value} {cs : List Value} (h : r.rel H x [u0, u1, u2]) (t : Elems r H l cs) : Elems r H (x :: l) (u0 :: u1 :: u2 :: cs) := .cons (c := [u0, u1, u2]) h t
theorem Elems.c4 {α : Type} {r : Rp α} {H : PH} {x : α} {l : List α} {u0 u1 u2 u3 : Value} {cs : List Value} (h : r.rel H x [u0, u1, u2, u3]) (t : Elems r H l cs) : Elems r H (x :: l) (u0 :: u1 :: u2 :: u3 :: cs) := .cons (c := [u0, u1, u2, u3]) h t
theorem Elems.c5 {α : Type} {r : Rp α} {H : PH} {x : α} {l : List α} {u0 u1 u2 u3 u4 : Value} {cs : List Value} (h : r.rel H x [u0, u1, u2, u3, u4]) (t : Elems r H l cs) : Elems r H (x :: l) (u0 :: u1 :: u2 :: u3 :: u4 :: cs) := .cons (c := [u0, u1, u2, u3, u4]) h t
theorem Elems.c6 {α : Type} {r : Rp α} {H : PH} {x : α} {l : List α} {u0 u1 u2 u3 u4 u5 : Value} {cs : List Value} (h : r.rel H x [u0, u1, u2, u3, u4, u5]) (t : Elems r H l cs) : Elems r H (x :: l) (u0 :: u1 :: u2 :: u3 :: u4 :: u5 :: cs) := .cons (c := [u0, u1, u2, u3, u4, u5]) h t
theorem Elems.c7 {α : Type} {r : Rp α} {H : PH} {x : α} {l : List α} {u0 u1 u2 u3 u4 u5 u6 : Value} {cs : List Value} (h : r.rel H x [u0, u1, u2, u3, u4, u5, u6]) (t : Elems r H l cs) : Elems r H (x :: l) (u0 :: u1 :: u2 :: u3 :: u4 :: u5 :: u6 :: cs) := .cons (c := [u0, u1, u2, u3, u4, u5, u6]) h t
theorem Elems.c8 {α : Type} {r : Rp α} {H : PH} {x : α} {l : List α} {u0 u1 u2 u3 u4 u5 u6 u7 : Value} {cs : List Value} (h : r.rel H x [u0, u1, u2, u3, u4, u5, u6, u7]) (t : Elems r H l cs) : Elems r H (x :: l) (u0 :: u1 :: u2 :: u3 :: u4 :: u5 :: u6 :: u7 :: cs) := .cons (c := [u0, u1, u2, u3, u4, u5, u6, u7]) h t
/-- A nil slice is a row of no elements. -/
theorem row_nilE {α : Type} (r : Rp α) {w0 w : World} {O : List Res} (H : PH) (e : TypeId) (hL : Lcl w0 O w) :
    Lcl w0 (.row (.slice none 0 0) e r.sz ([] : List α).length [] :: O) w ∧ Le (fz w O) (fz w (.row (.slice none 0 0) e r.sz ([] : List α).length [] :: O)) ∧ Elems r (gz H w0 w (.row (.slice none 0 0) e r.sz ([] : List α).length [] :: O)) [] [] :=
  ⟨(row_nil hL e r.sz).1, (row_nil hL e r.sz).2, .nil⟩
/-- What the post says of a panic hangs on no slot. -/
def NoPanic (Q : Exit → Act → World → Prop) : Prop := ∀ c a (d : Option Tmp) (v : Value) w, Q (.panic c) (a.put d v) w → Q (.panic c) a w
section
variable {P : Program} {n : Sz} {Q : Exit → Act → World → Prop}
theorem np_body {fn : Func} {R : Value → World → Prop} : NoPanic (bodyQ P fn R) := fun _ _ d _ _ h => by cases d <;> exact h
theorem np_seq {y : Code} (h : NoPanic Q) : NoPanic (seqQ P y Q) := fun c a d v w k => h c a d v w k
theorem np_cut {σ : Type} {I : σ → Env} {R : σ → World → Prop} (h : NoPanic Q) : NoPanic (cutQ n I R Q) := fun c a d v w k => h c a d v w k
theorem np_loop {σ : Type} {I : σ → Env} {R : σ → World → Prop} {μ : σ → Nat} {x : σ} (h : NoPanic Q) : NoPanic (loopQ n I R μ x Q) := fun c a d v w k => h c a d v w k
theorem np_block {id : Nat} (h : NoPanic Q) : NoPanic (Exit.inBlock id Q) := fun c a d v w k => h c a d v w k
end
section
variable {P : Program} {n : Sz} {m fuel : Nat} {l : List Oper} {Q : Exit → Act → World → Prop} {L : Env} {w w0 : World} {done : List Nat} {i d : Nat} {op : Op} {ty : TypeId} {pos : String} {af : Array Edge}
def hoistB (l : List Oper) (m : Nat) (done : List Nat) (i : Nat) : Bool :=
  Region.noSelect l.toArray && Region.free .any l.toArray (lst m done) i && (Region.ready .any l.toArray (lst m done)).contains i
theorem N_hoist (i : Nat) {v : Value} (hq : NoPanic Q) (hc : hoistB l m done i = true) (ho : nthO l i = some ⟨some d, op, ty, pos, af, none⟩) (hr : ∀ w, RunsAt P L w op ty v) (hn : Nat.blt d n.n = true)
    (h : Nv P n l Q fuel (lst m (i :: done)) ((d, v) :: L) w) : Nv P n l Q (fuel + 1) (lst m done) L w := fun a fr => by
  simp only [hoistB, Bool.and_eq_true] at hc
  obtain ⟨⟨h1, h2⟩, h3⟩ := hc
  have ho' : l.toArray[i]? = some ⟨some d, op, ty, pos, af, none⟩ := by rw [nthO_eq] at ho; simpa using ho
  refine wpAny_take (v := v) ho' h1 h2 h3 (fun c a w k => hq c a _ _ w k) (.inl ⟨by simp [Region.wanted], fun w' => hr w' w' (Ext.refl _) _ fr.rho _ _ _ _⟩) ?_
  exact h _ (fr.put hn)
end
section
variable {P : Program} {n : Sz} {m fuel : Nat} {lo : List Oper} {Q : Exit → Act → World → Prop} {L : Env} {w w0 : World} {done : List Nat} {i d : Nat} {ty : TypeId} {pos : String} {af : Array Edge} {α : Type} {r : Rp α} {H : PH} {x y : Operand} {v : Value} {t e : TypeId} {O : List Res}
theorem N_index (ix : Nat) [Inhabited α] {l : List α} {k : IntKind} {i : Int} {zz : Value} {bt : Nat} (hq : NoPanic Q) (hc : hoistB lo m done ix = true) (ho : nthO lo ix = some ⟨some d, .indexAddr t x y, ty, pos, af, none⟩) (hx : ev L x = some v) (hy : ev L y = some (.int k i)) (ht : P.underlying t = some (.slice e)) (he : Zr P e zz r.sz bt) (hv : Vec r H v l) (j : Nat) (hm : i = (j : Int)) (hlt : j < l.length) (hn : Nat.blt d n.n = true)
    (h : ∀ p c, r.rel H (l.getD j default) c → PtrTo H p c → Nv P n lo Q fuel (lst m (ix :: done)) ((d, .pointer (some p)) :: L) w) : Nv P n lo Q (fuel + 1) (lst m done) L w := by
  obtain ⟨p, c, h1, h2, h3⟩ := r_index (P := P) (ty := ty) hx hy ht he hv j hm (getD_some hlt)
  exact N_hoist ix hq hc ho h3 hn (h p c h1 h2)
theorem r_indexRW (i : Nat) {sz bt m : Nat} {zz : Value} {xs : List Value} {k : IntKind} {c : Int} (hx : ev L x = some v) (hy : ev L y = some (.int k c)) (ht : P.underlying t = some (.slice e)) (hz : Zr P e zz sz bt) (hL : Lcl w0 O w) (hi : nthR O i = some (.row v e sz m xs)) (j : Nat) (hj : c = (j : Int)) (hlt : j < m) :
    ∃ p, RowPtr v (j * sz) p ∧ ∀ w1, RunsAt P L w1 (.indexAddr t x y) ty (.pointer (some p)) := by
  obtain ⟨p, h1, h2⟩ := r_indexR (P := P) (ty := ty) i hx hy ht hz hL hi j hj hlt
  exact ⟨p, h1, h2⟩
theorem N_indexR (ix i : Nat) {sz bt k' : Nat} {zz : Value} {xs : List Value} {k : IntKind} {c : Int} (hq : NoPanic Q) (hc : hoistB lo m done ix = true) (ho : nthO lo ix = some ⟨some d, .indexAddr t x y, ty, pos, af, none⟩) (hx : ev L x = some v) (hy : ev L y = some (.int k c)) (ht : P.underlying t = some (.slice e)) (hz : Zr P e zz sz bt) (hL : Lcl w0 O w) (hi : nthR O i = some (.row v e sz k' xs)) (j : Nat) (hj : c = (j : Int)) (hlt : j < k') (hn : Nat.blt d n.n = true)
    (h : ∀ p, RowPtr v (j * sz) p → Nv P n lo Q fuel (lst m (ix :: done)) ((d, .pointer (some p)) :: L) w) : Nv P n lo Q (fuel + 1) (lst m done) L w := by
  obtain ⟨p, h1, h2⟩ := r_indexRW (P := P) (ty := ty) i hx hy ht hz hL hi j hj hlt
  exact N_hoist ix hq hc ho h2 hn (h p h1)
end
end Go.E
namespace Go.E
open Go Go.RowKit
theorem Lcl.poke {w0 w w' : World} {O : List Res} {g : Nat} (h : Lcl w0 O w) (hg : w.grownBy w' (some g)) (_ : w.drawn ≤ w'.drawn) (hge : w0.heap.size ≤ g) (hno : owned O g = false) : Lcl w0 O w' := by
  have hs : ∀ r ∈ O, ∀ b, r.block = some b → w'.heap[b]? = w.heap[b]? := fun r hr b hb => by
    refine hg.block b ((h.res r hr).lt hb) (fun e => ?_)
    have e' : b = g := by simpa [eq_comm] using e
    have : owned O b = true := owned_iff.2 ⟨r, hr, hb⟩
    rw [e', hno] at this; cases this
  refine ⟨⟨⟨hg.os.trans h.ext.os, hg.tape.trans h.ext.tape, hg.output.trans h.ext.output, Nat.le_trans h.ext.size hg.size, fun k hk => ?_⟩⟩, fun r hr => (h.res r hr).same (hs r hr), h.own, h.dis⟩
  have hne : ¬ (some k = some g) := fun e => by
    have e' : k = g := by simpa using e
    omega
  rw [hg.block k (Nat.lt_of_lt_of_le hk h.ext.size) hne]
  exact h.ext.block k hk
section
variable {P : Program} {L : Env} {w : World} {x y : Operand} {ty t t' : TypeId}
end
theorem cells_one {v : Value} (h : v.oneCell' = true) : v.cells.toList = [v] := by cases v <;> simp_all [Value.cells, Value.oneCell']
section
variable {P : Program} {n : Sz} {ops : Array Oper} {Q : Exit → Act → World → Prop} {L : Env} {w w0 : World} {O : List Res} {rest : List Oper} {d : Nat} {ty : TypeId} {pos : String} {af : Array Edge} {x : Operand} {v : Value} {t e : TypeId} {H : PH}
theorem S_box1 (hx : ev L x = some v) (h1 : v.oneCell' = true) (hn : Nat.blt d n.n = true) (hL : Lcl w0 O w)
    (h : ∀ w' b, Lcl w0 (.box b [v] t :: O) w' → Le (fz w O) (fz w' (.box b [v] t :: O)) → Ext w w' → S P n ops Q rest ((d, .pointer (some ⟨b, 0, none⟩)) :: L) w') : S P n ops Q (⟨some d, .box t x, ty, pos, af, none⟩ :: rest) L w :=
  S_box hx (cells_one h1) hn hL h
/-- A byte slice of the call's own becomes one that shares its bytes with a string: it lies fast. -/
theorem S_cvB (i : Nat) {l : List UInt8} {xs : List Value} (hx : ev L x = some v) (ht : P.underlying t = some (.slice e)) (he : P.underlying e = some (.int .u8)) (hn : Nat.blt d n.n = true) (_hH : Le H (hp w0)) (hL : Lcl w0 O w) (hi : nthR O i = some (.row v e 1 l.length xs)) (hel : Elems .byte (gz H w0 w O) l xs) (hne : l ≠ [])
    (h : ∀ w', Lcl w0 (delR O i) w' → Le (fz w O) (fz w' (delR O i)) → Vec .byte (gz H w0 w' (delR O i)) v l → S P n ops Q rest ((d, v) :: L) w') :
    S P n ops Q (⟨some d, .convert t t x, ty, pos, af, none⟩ :: rest) L w := by
  have hown : w.ownsRow 0 e 1 v l.length xs := hL.at hi
  rcases hown.2 with ⟨_, hn0⟩ | ⟨g, cap, cur, rfl, hb, hg, hnc, hcm, hcs, htake⟩
  · exact absurd (List.eq_nil_of_length_eq_zero hn0) hne
  have hgl := lt_of_heap hg
  have hfr : w.freeze ⟨g, cur.size, none⟩ 1 = { w with heap := w.heap.setIfInBounds g (.cells cur e (cur.size, cur.size + 1)) } := by
    unfold World.freeze
    rw [if_neg (by decide)]
    congr 1
    apply Array.ext_getElem?
    intro k
    rw [Array.getElem?_modify, Array.getElem?_setIfInBounds]
    by_cases hk : g = k
    · subst hk; rw [if_pos rfl, if_pos rfl, if_pos hgl, hg]; rfl
    · rw [if_neg hk, if_neg hk]
  have hrun : (convert t t (.slice (some ⟨g, 0, none⟩) l.length cap)).run P w = .ok (.slice (some ⟨g, 0, none⟩) l.length cap) (w.freeze ⟨g, cur.size, none⟩ 1) := by
    simp [convert, run_underlying ht, run_underlying he, markStringish, shape, freeze, Sem.run, World.shape?, hg]
  rw [hfr] at hrun
  have hgr : w.grownBy { w with heap := w.heap.setIfInBounds g (.cells cur e (cur.size, cur.size + 1)) } (some g) :=
    ⟨rfl, rfl, rfl, by simp, fun k _ hne => by
      show (w.heap.setIfInBounds g _)[k]? = _
      rw [Array.getElem?_setIfInBounds, if_neg (fun e => hne (by rw [e]))]⟩
  have hmem : Res.row (.slice (some ⟨g, 0, none⟩) l.length cap) e 1 l.length xs ∈ O := (perm_nth hi).mem_iff.2 (.head _)
  have hge : w0.heap.size ≤ g := hL.own _ hmem g rfl
  have hno : owned (delR O i) g = false := by
    cases hc : owned (delR O i) g with
    | false => rfl
    | true =>
      obtain ⟨r, hr, hb'⟩ := owned_iff.1 hc
      have hd := List.pairwise_cons.1 (hL.perm (perm_nth hi).symm).dis
      exact absurd hb' (hd.1 r hr g rfl)
  have hL' := (hL.dropAt hi).poke hgr (Nat.le_refl _) hge hno
  have hle : Le (fz w O) (fz { w with heap := w.heap.setIfInBounds g (.cells cur e (cur.size, cur.size + 1)) } (delR O i)) := fun b o hbo => by
    have hbg : b ≠ g := fun e => by
      subst e
      unfold fz at hbo
      rw [if_pos (owned_iff.2 ⟨_, hmem, rfl⟩)] at hbo
      cases hbo
    have h1 := fz_dropAt (w := w) hi b o hbo
    unfold fz at h1 ⊢
    split at h1
    · cases h1
    · rename_i ho
      rw [if_neg ho]
      show (w.heap.setIfInBounds g _)[b]? = some o
      rw [Array.getElem?_setIfInBounds, if_neg (fun e => hbg e.symm)]
      exact h1
  refine S_value rfl rfl hn (fun ρ hρ => by simp [execOp, hρ x _ hx, hrun]) (h _ hL' hle ?_)
  refine ⟨some ⟨g, 0, none⟩, cap, rfl, hnc, hcm, (fun h => by cases h), fun A hA _ => ?_⟩
  cases hA
  refine ⟨rfl, fun j y hy => ?_⟩
  obtain ⟨c, hc, hcell⟩ := hel.at j y hy
  refine ⟨c, hc, fun k u hu => ?_⟩
  have h1 := hcell k u hu
  rw [← htake, List.getElem?_take] at h1
  split at h1
  · have hgz : gz H w0 { w with heap := w.heap.setIfInBounds g (.cells cur e (cur.size, cur.size + 1)) } (delR O i) g = some (.cells cur e (cur.size, cur.size + 1)) := by
      apply gz_right
      unfold nf fz
      rw [if_pos hge, hno]
      show (w.heap.setIfInBounds g _)[g]? = _
      rw [Array.getElem?_setIfInBounds, if_pos rfl, if_pos hgl]
    simp only [Addr.add_lit, Nat.zero_add, cellP, hgz]
    simpa using h1
  · cases h1
end
end Go.E
