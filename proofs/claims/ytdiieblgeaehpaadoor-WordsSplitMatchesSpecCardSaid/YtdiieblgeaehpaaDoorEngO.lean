/- More rules for generated walks: a new row with room (slices.Grow at nil, make with a capacity). No program in sight. -/
import Derived.Test.YtdiieblgeaehpaaDoorEngN
import Derived.Lib.AppendZeros
namespace Go.E
open Go Go.RowKit
section
variable {P : Program} {n : Sz} {ops : Array Oper} {Q : Exit → Act → World → Prop} {L : Env} {w w0 : World} {O : List Res} {rest : List Oper} {d : Nat} {ty : TypeId} {pos : String} {af : Array Edge} {x y : Operand} {t tn e : TypeId} {H : PH}
theorem r_cap {a : Option Addr} {m c : Nat} (hx : ev L x = some (.slice a m c)) (ht : P.underlying t = some (.slice e)) : RunsAt P L w (.call ⟨.builtin .cap, #[x], #[t]⟩) ty (.int .i64 (c : Int)) := by
  intro w' _ ρ hρ dst pos af g
  simp [execOp, resolve, invoke, builtin, hρ x _ hx, Builtin.cap_, run_underlying ht]
  rfl
/-- append(nil, make([]T, m)...), m at least one. -/
theorem S_growZ {k kn : IntKind} {zz : Value} {bt m : Nat} (hx : ev L x = some (.slice none 0 0)) (hy : ev L y = some (.int k (m : Int))) (ht : P.underlying t = some (.slice e)) (htn : P.underlying tn = some (.int kn)) (hz : Zr P e zz 1 bt) (hzc : zz.cells = #[zz]) (hn : Nat.blt d n.n = true) (h0 : 0 < m) (h63 : (m : Int) ≤ 9223372036854775807) (h48 : m * bt ≤ 281474976710656)
    (h : ∀ g cap cur w', Ext w w' → w.heap.size ≤ g → w'.heap[g]? = some (.cells cur e (0, 0)) → cap ≤ maxLen → cur.size = cap → S P n ops Q rest ((d, .slice (some ⟨g, 0, none⟩) m cap) :: L) w') :
    S P n ops Q (⟨some d, .call ⟨.builtin .append, #[x, y], #[t, tn]⟩, ty, pos, af, none⟩ :: rest) L w := by
  obtain ⟨inf, i1, i2, i3, i4⟩ := hz.parts
  have hr := Lib.run_append_nil_zeros (P := P) w t tn ty e inf zz k kn ht htn i1 i2 m h0 (by rw [i3]; decide) h63 (by rw [i4]; exact h48)
  have hge := grownCap_ge w m 0 e
  have hsz : ∀ k, (Builtin.zeroCells zz.cells k).size = k := fun k => by rw [hzc]; simp [Builtin.zeroCells]
  refine S_value (v := .slice (some ⟨w.heap.size, 0, none⟩) m (grownCap w m 0 e)) (w' := w.drew.alloc (.cells (Builtin.zeroCells zz.cells m ++ Builtin.zeroCells zz.cells (grownCap w m 0 e - m)) e)) rfl rfl hn (fun ρ hρ => by simp [execOp, resolve, invoke, builtin, hρ x _ hx, hρ y _ hy, hr]) (h _ _ (Builtin.zeroCells zz.cells m ++ Builtin.zeroCells zz.cells (grownCap w m 0 e - m)) _ ?_ (Nat.le_refl _) ?_ (grownCap_le_maxLen w m 0 e (by unfold maxLen; omega)) ?_)
  · exact (show Ext w w.drew from drawn_world).trans (ext_alloc _ _)
  · show (w.heap.push _)[w.heap.size]? = _
    simp
  · rw [Array.size_append, hsz, hsz]; omega
/-- s[:0] of a slice with room. -/
theorem r_cut0 {g m cap : Nat} {k : IntKind} {zz : Value} {bt : Nat} (hx : ev L x = some (.slice (some ⟨g, 0, none⟩) m cap)) (hy : ev L y = some (.int k 0)) (ht : P.underlying t = some (.slice e)) (hz : Zr P e zz 1 bt) : RunsAt P L w (.slice t x none (some y) none) ty (.slice (some ⟨g, 0, none⟩) 0 cap) := by
  obtain ⟨inf, i1, _, _, _⟩ := hz.parts
  intro w' _ ρ hρ dst pos af gd
  simp [execOp, hρ x _ hx, hρ y _ hy, Instr.sliceAt, run_underlying ht, Instr.slice, Instr.sliceBounds, Instr.sliceBound, asIntOf, sizeOf, typeInfo, i1]
  exact fun _ => by rw [Addr.add_lit]
theorem r_sliceNil {k : IntKind} {zz : Value} {bt : Nat} (hx : ev L x = some (.slice none 0 0)) (hy : ev L y = some (.int k 0)) (ht : P.underlying t = some (.slice e)) (hz : Zr P e zz 1 bt) : RunsAt P L w (.slice t x none (some y) none) ty (.slice none 0 0) := by
  obtain ⟨inf, i1, _, _, _⟩ := hz.parts
  intro w' _ ρ hρ dst pos af gd
  simp [execOp, hρ x _ hx, hρ y _ hy, Instr.sliceAt, run_underlying ht, Instr.slice, Instr.sliceBounds, Instr.sliceBound, asIntOf, sizeOf, typeInfo, i1]
/-- 'make([]T, 0, c)'. -/
theorem S_make0 {α : Type} {r : Rp α} {bt : Nat} {k k' : IntKind} {zz : Value} {c : Int} (hx : ev L x = some (.int k 0)) (hy : ev L y = some (.int k' c)) (ht : P.underlying t = some (.slice e)) (hz : Zr P e zz r.sz bt) (hn : Nat.blt d n.n = true) (hL : Lcl w0 O w) (hm : 0 ≤ c ∧ (bt : Int) * c ≤ 281474976710656 ∧ c ≤ 9223372036854775807)
    (h : ∀ v' w' xs, Lcl w0 (.row v' e r.sz ([] : List α).length xs :: O) w' → Le (fz w O) (fz w' (.row v' e r.sz ([] : List α).length xs :: O)) → Elems r (gz H w0 w' (.row v' e r.sz ([] : List α).length xs :: O)) [] xs → S P n ops Q rest ((d, v') :: L) w') :
    S P n ops Q (⟨some d, .makeSlice t x y, ty, pos, af, none⟩ :: rest) L w := by
  obtain ⟨inf, i1, i2, i3, i4⟩ := hz.parts
  obtain ⟨m, rfl⟩ := Int.eq_ofNat_of_zero_le hm.1
  obtain ⟨w', hr, ho, hg⟩ := run_make_own (P := P) w w.heap.size t e inf zz r.sz ht i1 i2 i3 k k' m (by rw [i4]; have := hm.2.1; rw [← Int.natCast_mul] at this; exact Int.ofNat_le.1 this) (by unfold maxLen; omega) (Nat.le_refl _)
  have hx' := grownBy_ext (run_drawn _ _ _ _ hr) hg
  obtain ⟨h1, h2⟩ := row_new hL hx' ho
  exact S_value rfl rfl hn (fun ρ hρ => by simp [execOp, hρ x _ hx, hρ y _ hy, hr]) (h _ _ _ h1 h2 .nil)
/-- A byte of a string. -/
theorem r_sidx {l : List UInt8} {k : IntKind} {i : Int} (hx : ev L x = some (.string ⟨l.toArray⟩)) (hy : ev L y = some (.int k i)) (ht : P.underlying t = some .string) (hi : 0 ≤ i ∧ i < (l.length : Int)) : RunsAt P L w (.index t x y) ty (.int .u8 ((l.getD i.toNat default).toNat : Int)) := by
  intro w' _ ρ hρ dst pos af g
  have h1 : i.toNat < l.length := by omega
  have h2 : (⟨l.toArray⟩ : ByteArray)[i.toNat]? = some (l.getD i.toNat default) := by
    have hb : i.toNat < (⟨l.toArray⟩ : ByteArray).size := h1
    rw [show l.getD i.toNat default = (⟨l.toArray⟩ : ByteArray)[i.toNat] by rw [List.getD_eq_getElem?_getD, List.getElem?_eq_getElem h1]; rfl]
    simp [hb]
  simp [execOp, hρ x _ hx, hρ y _ hy, Instr.index, asIntOf, run_underlying ht, hi.1, h2]
end
end Go.E
