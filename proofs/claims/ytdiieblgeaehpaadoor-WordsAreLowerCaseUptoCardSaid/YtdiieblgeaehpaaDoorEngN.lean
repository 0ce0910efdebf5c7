/- More rules for generated walks: parts of structs in variables. No program in sight. -/
import Derived.Test.YtdiieblgeaehpaaDoorEngM
import Derived.Lib.AppendZeros
namespace Go.E
open Go Go.RowKit
theorem PtrTo.part {H : PH} {p : Addr} {c : List Value} (h : PtrTo H p c) (m : Nat) : PtrTo H p (c.take m) :=
  ⟨h.1, fun j u hu => h.2 j u (by
    rw [List.getElem?_take] at hu
    split at hu
    · exact hu
    · cases hu)⟩
section
variable {P : Program} {L : Env} {w w0 : World} {O : List Res} {x : Operand} {ty t : TypeId} {H : PH}
/-- A part of a variable. -/
theorem r_loadBP (i m : Nat) {b off : Nat} {cs c : List Value} {t' : TypeId} {dd : TypeDesc} {zz : Value} {bt : Nat} (hx : ev L x = some (.pointer (some ⟨b, off, none⟩))) (ht : P.underlying t = some dd) (hd : aggT dd = true) (hz : Zr P t zz c.length bt) (hL : Lcl w0 O w) (hi : nthR O i = some (.box b cs t')) (hc : (cs.drop off).take m = c) : RunsAt P L w (.load t x) ty (.agg c.toArray) := by
  have h1 := ((box_ptr hL hi).add off).part m
  rw [hc, Addr.add_lit, Nat.zero_add] at h1
  exact r_loadN hx ht hd hz h1 (Le.refl _)
/-- A part of what a pointer shows. -/
theorem r_loadP (m : Nat) {p : Addr} {cs c : List Value} {dd : TypeDesc} {zz : Value} {bt : Nat} (hx : ev L x = some (.pointer (some p))) (ht : P.underlying t = some dd) (hd : aggT dd = true) (hz : Zr P t zz c.length bt) (hp' : PtrTo H p cs) (hs : Le H (hp w)) (hc : cs.take m = c) : RunsAt P L w (.load t x) ty (.agg c.toArray) := by
  have h1 := hp'.part m
  rw [hc] at h1
  exact r_loadN hx ht hd hz h1 hs
/-- A slice is nil, or it lies somewhere. -/
theorem nil_or {α : Type} {r : Rp α} {v : Value} {l : List α} (h : Vec r H v l) : (v = .slice none 0 0 ∧ l = []) ∨ ∃ A n c, v = .slice (some A) n c := by
  obtain ⟨a, cap, h1, h2, _, h4, _⟩ := h.ex
  cases a with
  | none =>
    have hc := h4 rfl
    have hl : l.length = 0 := by omega
    left
    rw [h1, hl, hc]
    exact ⟨rfl, List.eq_nil_of_length_eq_zero hl⟩
  | some A => exact .inr ⟨A, _, _, h1⟩
theorem r_nilT {y : Operand} {e t' : TypeId} (hx : ev L x = some (.slice none 0 0)) (hy : ev L y = some (.slice none 0 0)) (ht : P.underlying t = some (.slice e)) : RunsAt P L w (.binOp .eql t x y t') ty (.bool true) := by
  intro w' _ ρ hρ dst pos af g
  have key : ∀ dd : Nat, (Op.equalIn (dd + 1) t (.slice none 0 0) (.slice none 0 0)).run P w' = .ok true w' := fun dd => by simp [Op.equalIn, run_underlying ht]
  have k2 : (Op.equal t (.slice none 0 0) (.slice none 0 0)).run P w' = .ok true w' := key 9999
  simp [execOp, hρ x _ hx, hρ y _ hy, eqGuard, binOp, k2]
theorem r_nilF {v : Value} {y : Operand} {e t' : TypeId} (hx : ev L x = some v) (hy : ev L y = some (.slice none 0 0)) (ht : P.underlying t = some (.slice e)) (hv : ∃ A n c, v = .slice (some A) n c) : RunsAt P L w (.binOp .eql t x y t') ty (.bool false) := by
  obtain ⟨A, n, c, rfl⟩ := hv
  intro w' _ ρ hρ dst pos af g
  have key : ∀ dd : Nat, (Op.equalIn (dd + 1) t (.slice (some A) n c) (.slice none 0 0)).run P w' = .ok false w' := fun dd => by simp [Op.equalIn, run_underlying ht]
  have k2 : (Op.equal t (.slice (some A) n c) (.slice none 0 0)).run P w' = .ok false w' := key 9999
  simp [execOp, hρ x _ hx, hρ y _ hy, eqGuard, binOp, k2]
/-- The nil slice is a row of one's own. -/
theorem ownNil {α : Type} (r : Rp α) {e : TypeId} (hL : Lcl w0 O w) (hH : Le H (hp w0)) : OwnH e r H w0 w (.slice none 0 0) ([] : List α) :=
  (row_nilE r H e hL).1.ownH (i := 0) hH rfl (row_nilE r H e hL).2.2
end
end Go.E

namespace Go.E
open Go Go.RowKit
section
variable {P : Program} {n : Sz} {ops : Array Oper} {Q : Exit → Act → World → Prop} {L : Env} {w w0 : World} {O : List Res} {rest : List Oper} {d : Nat} {ty : TypeId} {pos : String} {af : Array Edge} {x y : Operand} {t tn e : TypeId} {H : PH}
theorem r_cap {a : Option Addr} {m c : Nat} (hx : ev L x = some (.slice a m c)) (ht : P.underlying t = some (.slice e)) : RunsAt P L w (.call ⟨.builtin .cap, #[x], #[t]⟩) ty (.int .i64 (c : Int)) := by
  intro w' _ ρ hρ dst pos af g
  simp [execOp, resolve, invoke, builtin, hρ x _ hx, Builtin.cap_, run_underlying ht]
  rfl
/-- append(nil, make([]T, m)...), m at least one. -/
theorem S_growZ {k kn : IntKind} {zz : Value} {bt m : Nat} (hx : ev L x = some (.slice none 0 0)) (hy : ev L y = some (.int k (m : Int))) (ht : P.underlying t = some (.slice e)) (htn : P.underlying tn = some (.int kn)) (hz : Zr P e zz 1 bt) (hzc : zz.cells = #[zz]) (hn : Nat.blt d n.n = true) (h0 : 0 < m) (h63 : (m : Int) ≤ 9223372036854775807) (h48 : m * bt ≤ 281474976710656)
    (h : ∀ g cap cur w', Ext w w' → w.heap.size ≤ g → w'.heap[g]? = some (.cells cur e (0, 0)) → cap ≤ maxLen → cur.size = cap → S P n ops Q rest ((d, .slice (some ⟨g, 0, none⟩) m cap) :: L) w') :
    S P n ops Q (⟨some d, .call ⟨.builtin .append, #[x, y], #[t, tn]⟩, ty, pos, af, none⟩ :: rest) L w := by
  obtain ⟨inf, i1, i2, i3, i4⟩ := hz.parts
  have hr := Lib.run_append_nil_zeros (P := P) w t tn ty e inf zz k kn ht htn i1 i2 m h0 (by rw [i3]; decide) h63 (by rw [i4]; exact h48)
  have hge := grownCap_ge w m 0 e
  have hsz : ∀ k, (Builtin.zeroCells zz.cells k).size = k := fun k => by rw [hzc]; simp [Builtin.zeroCells]
  refine S_value (v := .slice (some ⟨w.heap.size, 0, none⟩) m (grownCap w m 0 e)) (w' := w.drew.alloc (.cells (Builtin.zeroCells zz.cells m ++ Builtin.zeroCells zz.cells (grownCap w m 0 e - m)) e)) rfl rfl hn (fun ρ hρ => by simp [execOp, resolve, invoke, builtin, hρ x _ hx, hρ y _ hy, hr]) (h _ _ (Builtin.zeroCells zz.cells m ++ Builtin.zeroCells zz.cells (grownCap w m 0 e - m)) _ ?_ (Nat.le_refl _) ?_ (grownCap_le_maxLen w m 0 e (by unfold maxLen; omega)) ?_)
  · exact (show Ext w w.drew from drawn_world).trans (ext_alloc _ _)
  · show (w.heap.push _)[w.heap.size]? = _
    simp
  · rw [Array.size_append, hsz, hsz]; omega
/-- s[:0] of a slice with room. -/
theorem r_cut0 {g m cap : Nat} {k : IntKind} {zz : Value} {bt : Nat} (hx : ev L x = some (.slice (some ⟨g, 0, none⟩) m cap)) (hy : ev L y = some (.int k 0)) (ht : P.underlying t = some (.slice e)) (hz : Zr P e zz 1 bt) : RunsAt P L w (.slice t x none (some y) none) ty (.slice (some ⟨g, 0, none⟩) 0 cap) := by
  obtain ⟨inf, i1, _, _, _⟩ := hz.parts
  intro w' _ ρ hρ dst pos af gd
  simp [execOp, hρ x _ hx, hρ y _ hy, Instr.sliceAt, run_underlying ht, Instr.slice, Instr.sliceBounds, Instr.sliceBound, asIntOf, sizeOf, typeInfo, i1]
  exact fun _ => by rw [Addr.add_lit]
theorem r_sliceNil {k : IntKind} {zz : Value} {bt : Nat} (hx : ev L x = some (.slice none 0 0)) (hy : ev L y = some (.int k 0)) (ht : P.underlying t = some (.slice e)) (hz : Zr P e zz 1 bt) : RunsAt P L w (.slice t x none (some y) none) ty (.slice none 0 0) := by
  obtain ⟨inf, i1, _, _, _⟩ := hz.parts
  intro w' _ ρ hρ dst pos af gd
  simp [execOp, hρ x _ hx, hρ y _ hy, Instr.sliceAt, run_underlying ht, Instr.slice, Instr.sliceBounds, Instr.sliceBound, asIntOf, sizeOf, typeInfo, i1]
/-- 'make([]T, 0, c)'. -/
theorem S_make0 {α : Type} {r : Rp α} {bt : Nat} {k k' : IntKind} {zz : Value} {c : Int} (hx : ev L x = some (.int k 0)) (hy : ev L y = some (.int k' c)) (ht : P.underlying t = some (.slice e)) (hz : Zr P e zz r.sz bt) (hn : Nat.blt d n.n = true) (hL : Lcl w0 O w) (hm : 0 ≤ c ∧ (bt : Int) * c ≤ 281474976710656 ∧ c ≤ 9223372036854775807)
    (h : ∀ v' w' xs, Lcl w0 (.row v' e r.sz ([] : List α).length xs :: O) w' → Le (fz w O) (fz w' (.row v' e r.sz ([] : List α).length xs :: O)) → Elems r (gz H w0 w' (.row v' e r.sz ([] : List α).length xs :: O)) [] xs → S P n ops Q rest ((d, v') :: L) w') :
    S P n ops Q (⟨some d, .makeSlice t x y, ty, pos, af, none⟩ :: rest) L w := by
  obtain ⟨inf, i1, i2, i3, i4⟩ := hz.parts
  obtain ⟨m, rfl⟩ := Int.eq_ofNat_of_zero_le hm.1
  obtain ⟨w', hr, ho, hg⟩ := run_make_own (P := P) w w.heap.size t e inf zz r.sz ht i1 i2 i3 k k' m (by rw [i4]; have := hm.2.1; rw [← Int.natCast_mul] at this; exact Int.ofNat_le.1 this) (by unfold maxLen; omega) (Nat.le_refl _)
  have hx' := grownBy_ext (run_drawn _ _ _ _ hr) hg
  obtain ⟨h1, h2⟩ := row_new hL hx' ho
  exact S_value rfl rfl hn (fun ρ hρ => by simp [execOp, hρ x _ hx, hρ y _ hy, hr]) (h _ _ _ h1 h2 .nil)
/-- A byte of a string. -/
theorem r_sidx {l : List UInt8} {k : IntKind} {i : Int} (hx : ev L x = some (.string ⟨l.toArray⟩)) (hy : ev L y = some (.int k i)) (ht : P.underlying t = some .string) (hi : 0 ≤ i ∧ i < (l.length : Int)) : RunsAt P L w (.index t x y) ty (.int .u8 ((l.getD i.toNat default).toNat : Int)) := by
  intro w' _ ρ hρ dst pos af g
  have h1 : i.toNat < l.length := by omega
  have h2 : (⟨l.toArray⟩ : ByteArray)[i.toNat]? = some (l.getD i.toNat default) := by
    have hb : i.toNat < (⟨l.toArray⟩ : ByteArray).size := h1
    rw [show l.getD i.toNat default = (⟨l.toArray⟩ : ByteArray)[i.toNat] by rw [List.getD_eq_getElem?_getD, List.getElem?_eq_getElem h1]; rfl]
    simp [hb]
  simp [execOp, hρ x _ hx, hρ y _ hy, Instr.index, asIntOf, run_underlying ht, hi.1, h2]
end
end Go.E

namespace Go.E
open Go Go.RowKit
section
variable {P : Program} {n : Sz} {m fuel : Nat} {l : List Oper} {Q : Exit → Act → World → Prop} {L : Env} {w w0 : World} {done : List Nat} {i d : Nat} {op : Op} {ty : TypeId} {pos : String} {af : Array Edge}
theorem N_hoistg (i : Nat) {v : Value} {j s : Nat} {want b : Bool} {oj : Oper} (hq : NoPanic Q) (hc : hoistB l m done i = true) (ho : nthO l i = some ⟨some d, op, ty, pos, af, some (j, want)⟩) (hj : nthO l j = some oj) (hd : oj.dst = some s) (hb : gt L s = some (.bool b)) (hw : b = want) (hr : ∀ w, RunsAt P L w op ty v) (hn : Nat.blt d n.n = true)
    (h : Nv P n l Q fuel (lst m (i :: done)) ((d, v) :: L) w) : Nv P n l Q (fuel + 1) (lst m done) L w := fun a fr => by
  simp only [hoistB, Bool.and_eq_true] at hc
  obtain ⟨⟨h1, h2⟩, h3⟩ := hc
  have ho' : l.toArray[i]? = some ⟨some d, op, ty, pos, af, some (j, want)⟩ := by rw [nthO_eq] at ho; simpa using ho
  have hj' : l.toArray[j]? = some oj := by rw [nthO_eq] at hj; simpa using hj
  have hy : yielded l.toArray a.tmps j = some b := by simp only [yielded, hj', Option.bind_some, hd, fr.get s _ hb]
  refine wpAny_take (v := v) ho' h1 h2 h3 (fun c a w k => hq c a _ _ w k) (.inl ⟨by simp [Region.wanted, hy, hw], fun w' => hr w' w' (Ext.refl _) _ fr.rho _ _ _ _⟩) ?_
  exact h _ (fr.put hn)
theorem N_no (i : Nat) {j s : Nat} {want b : Bool} {oj : Oper} (hq : NoPanic Q) (hc : hoistB l m done i = true) (ho : nthO l i = some ⟨some d, op, ty, pos, af, some (j, want)⟩) (hj : nthO l j = some oj) (hd : oj.dst = some s) (hb : gt L s = some (.bool b)) (hw : b = !want) (hn : Nat.blt d n.n = true)
    (h : Nv P n l Q fuel (lst m (i :: done)) ((d, undef) :: L) w) : Nv P n l Q (fuel + 1) (lst m done) L w := fun a fr => by
  simp only [hoistB, Bool.and_eq_true] at hc
  obtain ⟨⟨h1, h2⟩, h3⟩ := hc
  have ho' : l.toArray[i]? = some ⟨some d, op, ty, pos, af, some (j, want)⟩ := by rw [nthO_eq] at ho; simpa using ho
  have hj' : l.toArray[j]? = some oj := by rw [nthO_eq] at hj; simpa using hj
  have hy : yielded l.toArray a.tmps j = some b := by simp only [yielded, hj', Option.bind_some, hd, fr.get s _ hb]
  refine wpAny_take (v := undef) ho' h1 h2 h3 (fun c a w k => hq c a _ _ w k) (.inr ⟨by simp [Region.wanted, hy, hw], rfl⟩) ?_
  exact h _ (fr.put hn)
theorem N_no2 (i : Nat) {j s : Nat} {want : Bool} {oj : Oper} (hq : NoPanic Q) (hc : hoistB l m done i = true) (ho : nthO l i = some ⟨some d, op, ty, pos, af, some (j, want)⟩) (hj : nthO l j = some oj) (hd : oj.dst = some s) (hb : gt L s = some undef) (hn : Nat.blt d n.n = true)
    (h : Nv P n l Q fuel (lst m (i :: done)) ((d, undef) :: L) w) : Nv P n l Q (fuel + 1) (lst m done) L w := fun a fr => by
  simp only [hoistB, Bool.and_eq_true] at hc
  obtain ⟨⟨h1, h2⟩, h3⟩ := hc
  have ho' : l.toArray[i]? = some ⟨some d, op, ty, pos, af, some (j, want)⟩ := by rw [nthO_eq] at ho; simpa using ho
  have hj' : l.toArray[j]? = some oj := by rw [nthO_eq] at hj; simpa using hj
  have hy : yielded l.toArray a.tmps j = none := by simp only [yielded, hj', Option.bind_some, hd, fr.get s _ hb, undef]
  refine wpAny_take (v := undef) ho' h1 h2 h3 (fun c a w k => hq c a _ _ w k) (.inr ⟨by simp [Region.wanted, hy], rfl⟩) ?_
  exact h _ (fr.put hn)
theorem N_split {s : Nat} {b : Bool} {listed : Array Bool} (_hb : gt L s = some (.bool b)) (h1 : b = true → Nv P n l Q fuel listed L w) (h2 : b = false → Nv P n l Q fuel listed L w) : Nv P n l Q fuel listed L w := by
  cases b
  · exact h2 rfl
  · exact h1 rfl
end
end Go.E
