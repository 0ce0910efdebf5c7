/- Regions that draw their order, where stores come before what only computes: what hangs on no memory is taken first. No program in sight. -/
import Derived.Test.YtdiieblgeaehpaaDoorEngK
namespace Go.E
open Go Go.RowKit

theorem Elems.c1 {α : Type} {r : Rp α} {H : PH} {x : α} {l : List α} {u0 : Value} {cs : List Value} (h : r.rel H x [u0]) (t : Elems r H l cs) : Elems r H (x :: l) (u0 :: cs) := .cons (c := [u0]) h t
theorem Elems.c2 {α : Type} {r : Rp α} {H : PH} {x : α} {l : List α} {u0 u1 : Value} {cs : List Value} (h : r.rel H x [u0, u1]) (t : Elems r H l cs) : Elems r H (x :: l) (u0 :: u1 :: cs) := .cons (c := [u0, u1]) h t
theorem Elems.c3 {α : Type} {r : Rp α} {H : PH} {x : α} {l : List α} {u0 u1 u2 : Value} {cs : List Value} (h : r.rel H x [u0, u1, u2]) (t : Elems r H l cs) : Elems r H (x :: l) (u0 :: u1 :: u2 :: cs) := .cons (c := [u0, u1, u2]) h t
theorem Elems.c4 {α : Type} {r : Rp α} {H : PH} {x : α} {l : List α} {u0 u1 u2 u3 : Value} {cs : List Value} (h : r.rel H x [u0, u1, u2, u3]) (t : Elems r H l cs) : Elems r H (x :: l) (u0 :: u1 :: u2 :: u3 :: cs) := .cons (c := [u0, u1, u2, u3]) h t
theorem Elems.c5 {α : Type} {r : Rp α} {H : PH} {x : α} {l : List α} {u0 u1 u2 u3 u4 : Value} {cs : List Value} (h : r.rel H x [u0, u1, u2, u3, u4]) (t : Elems r H l cs) : Elems r H (x :: l) (u0 :: u1 :: u2 :: u3 :: u4 :: cs) := .cons (c := [u0, u1, u2, u3, u4]) h t
theorem Elems.c6 {α : Type} {r : Rp α} {H : PH} {x : α} {l : List α} {u0 u1 u2 u3 u4 u5 : Value} {cs : List Value} (h : r.rel H x [u0, u1, u2, u3, u4, u5]) (t : Elems r H l cs) : Elems r H (x :: l) (u0 :: u1 :: u2 :: u3 :: u4 :: u5 :: cs) := .cons (c := [u0, u1, u2, u3, u4, u5]) h t
theorem Elems.c7 {α : Type} {r : Rp α} {H : PH} {x : α} {l : List α} {u0 u1 u2 u3 u4 u5 u6 : Value} {cs : List Value} (h : r.rel H x [u0, u1, u2, u3, u4, u5, u6]) (t : Elems r H l cs) : Elems r H (x :: l) (u0 :: u1 :: u2 :: u3 :: u4 :: u5 :: u6 :: cs) := .cons (c := [u0, u1, u2, u3, u4, u5, u6]) h t
theorem Elems.c8 {α : Type} {r : Rp α} {H : PH} {x : α} {l : List α} {u0 u1 u2 u3 u4 u5 u6 u7 : Value} {cs : List Value} (h : r.rel H x [u0, u1, u2, u3, u4, u5, u6, u7]) (t : Elems r H l cs) : Elems r H (x :: l) (u0 :: u1 :: u2 :: u3 :: u4 :: u5 :: u6 :: u7 :: cs) := .cons (c := [u0, u1, u2, u3, u4, u5, u6, u7]) h t
/-- A nil slice is a row of no elements. -/
theorem row_nilE {α : Type} (r : Rp α) {w0 w : World} {O : List Res} (H : PH) (e : TypeId) (hL : Lcl w0 O w) :
    Lcl w0 (.row (.slice none 0 0) e r.sz ([] : List α).length [] :: O) w ∧ Le (fz w O) (fz w (.row (.slice none 0 0) e r.sz ([] : List α).length [] :: O)) ∧ Elems r (gz H w0 w (.row (.slice none 0 0) e r.sz ([] : List α).length [] :: O)) [] [] :=
  ⟨(row_nil hL e r.sz).1, (row_nil hL e r.sz).2, .nil⟩
/-- What the post says of a panic hangs on no slot. -/
def NoPanic (Q : Exit → Act → World → Prop) : Prop := ∀ c a (d : Option Tmp) (v : Value) w, Q (.panic c) (a.put d v) w → Q (.panic c) a w
section
variable {P : Program} {n : Sz} {Q : Exit → Act → World → Prop}
theorem np_body {fn : Func} {R : Value → World → Prop} : NoPanic (bodyQ P fn R) := fun _ _ d _ _ h => by cases d <;> exact h
theorem np_seq {y : Code} (h : NoPanic Q) : NoPanic (seqQ P y Q) := fun c a d v w k => h c a d v w k
theorem np_cut {σ : Type} {I : σ → Env} {R : σ → World → Prop} (h : NoPanic Q) : NoPanic (cutQ n I R Q) := fun c a d v w k => h c a d v w k
theorem np_loop {σ : Type} {I : σ → Env} {R : σ → World → Prop} {μ : σ → Nat} {x : σ} (h : NoPanic Q) : NoPanic (loopQ n I R μ x Q) := fun c a d v w k => h c a d v w k
theorem np_block {id : Nat} (h : NoPanic Q) : NoPanic (Exit.inBlock id Q) := fun c a d v w k => h c a d v w k
end

section
variable {P : Program} {n : Sz} {m fuel : Nat} {l : List Oper} {Q : Exit → Act → World → Prop} {L : Env} {w w0 : World} {done : List Nat} {i d : Nat} {op : Op} {ty : TypeId} {pos : String} {af : Array Edge}
def hoistB (l : List Oper) (m : Nat) (done : List Nat) (i : Nat) : Bool :=
  Region.noSelect l.toArray && Region.free .any l.toArray (lst m done) i && (Region.ready .any l.toArray (lst m done)).contains i
theorem N_hoist (i : Nat) {v : Value} (hq : NoPanic Q) (hc : hoistB l m done i = true) (ho : nthO l i = some ⟨some d, op, ty, pos, af, none⟩) (hr : ∀ w, RunsAt P L w op ty v) (hn : Nat.blt d n.n = true)
    (h : Nv P n l Q fuel (lst m (i :: done)) ((d, v) :: L) w) : Nv P n l Q (fuel + 1) (lst m done) L w := fun a fr => by
  simp only [hoistB, Bool.and_eq_true] at hc
  obtain ⟨⟨h1, h2⟩, h3⟩ := hc
  have ho' : l.toArray[i]? = some ⟨some d, op, ty, pos, af, none⟩ := by rw [nthO_eq] at ho; simpa using ho
  refine wpAny_take (v := v) ho' h1 h2 h3 (fun c a w k => hq c a _ _ w k) (.inl ⟨by simp [Region.wanted], fun w' => hr w' w' (Ext.refl _) _ fr.rho _ _ _ _⟩) ?_
  exact h _ (fr.put hn)
end
section
variable {P : Program} {n : Sz} {m fuel : Nat} {lo : List Oper} {Q : Exit → Act → World → Prop} {L : Env} {w w0 : World} {done : List Nat} {i d : Nat} {ty : TypeId} {pos : String} {af : Array Edge} {α : Type} {r : Rp α} {H : PH} {x y : Operand} {v : Value} {t e : TypeId} {O : List Res}
theorem N_index (ix : Nat) [Inhabited α] {l : List α} {k : IntKind} {i : Int} {zz : Value} {bt : Nat} (hq : NoPanic Q) (hc : hoistB lo m done ix = true) (ho : nthO lo ix = some ⟨some d, .indexAddr t x y, ty, pos, af, none⟩) (hx : ev L x = some v) (hy : ev L y = some (.int k i)) (ht : P.underlying t = some (.slice e)) (he : Zr P e zz r.sz bt) (hv : Vec r H v l) (j : Nat) (hm : i = (j : Int)) (hlt : j < l.length) (hn : Nat.blt d n.n = true)
    (h : ∀ p c, r.rel H (l.getD j default) c → PtrTo H p c → Nv P n lo Q fuel (lst m (ix :: done)) ((d, .pointer (some p)) :: L) w) : Nv P n lo Q (fuel + 1) (lst m done) L w := by
  obtain ⟨p, c, h1, h2, h3⟩ := r_index (P := P) (ty := ty) hx hy ht he hv j hm (getD_some hlt)
  exact N_hoist ix hq hc ho h3 hn (h p c h1 h2)
theorem r_indexRW (i : Nat) {sz bt m : Nat} {zz : Value} {xs : List Value} {k : IntKind} {c : Int} (hx : ev L x = some v) (hy : ev L y = some (.int k c)) (ht : P.underlying t = some (.slice e)) (hz : Zr P e zz sz bt) (hL : Lcl w0 O w) (hi : nthR O i = some (.row v e sz m xs)) (j : Nat) (hj : c = (j : Int)) (hlt : j < m) :
    ∃ p, RowPtr v (j * sz) p ∧ ∀ w1, RunsAt P L w1 (.indexAddr t x y) ty (.pointer (some p)) := by
  obtain ⟨p, h1, h2⟩ := r_indexR (P := P) (ty := ty) i hx hy ht hz hL hi j hj hlt
  exact ⟨p, h1, h2⟩
theorem N_indexR (ix i : Nat) {sz bt k' : Nat} {zz : Value} {xs : List Value} {k : IntKind} {c : Int} (hq : NoPanic Q) (hc : hoistB lo m done ix = true) (ho : nthO lo ix = some ⟨some d, .indexAddr t x y, ty, pos, af, none⟩) (hx : ev L x = some v) (hy : ev L y = some (.int k c)) (ht : P.underlying t = some (.slice e)) (hz : Zr P e zz sz bt) (hL : Lcl w0 O w) (hi : nthR O i = some (.row v e sz k' xs)) (j : Nat) (hj : c = (j : Int)) (hlt : j < k') (hn : Nat.blt d n.n = true)
    (h : ∀ p, RowPtr v (j * sz) p → Nv P n lo Q fuel (lst m (ix :: done)) ((d, .pointer (some p)) :: L) w) : Nv P n lo Q (fuel + 1) (lst m done) L w := by
  obtain ⟨p, h1, h2⟩ := r_indexRW (P := P) (ty := ty) i hx hy ht hz hL hi j hj hlt
  exact N_hoist ix hq hc ho h2 hn (h p h1)
end
end Go.E
