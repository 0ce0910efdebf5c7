/- Regions that draw their order, with guards: every order. No program in sight. -/
import Derived.Test.YtdiieblgeaehpaaDoorEngO
namespace Go.E
open Go Go.RowKit
section
variable {P : Program} {n : Sz} {m fuel : Nat} {l : List Oper} {Q : Exit → Act → World → Prop} {L : Env} {w w0 : World} {done : List Nat} {i d : Nat} {op : Op} {ty : TypeId} {pos : String} {af : Array Edge}
theorem N_hoistg (i : Nat) {v : Value} {j s : Nat} {want b : Bool} {oj : Oper} (hq : NoPanic Q) (hc : hoistB l m done i = true) (ho : nthO l i = some ⟨some d, op, ty, pos, af, some (j, want)⟩) (hj : nthO l j = some oj) (hd : oj.dst = some s) (hb : gt L s = some (.bool b)) (hw : b = want) (hr : ∀ w, RunsAt P L w op ty v) (hn : Nat.blt d n.n = true)
    (h : Nv P n l Q fuel (lst m (i :: done)) ((d, v) :: L) w) : Nv P n l Q (fuel + 1) (lst m done) L w := fun a fr => by
  simp only [hoistB, Bool.and_eq_true] at hc
  obtain ⟨⟨h1, h2⟩, h3⟩ := hc
  have ho' : l.toArray[i]? = some ⟨some d, op, ty, pos, af, some (j, want)⟩ := by rw [nthO_eq] at ho; simpa using ho
  have hj' : l.toArray[j]? = some oj := by rw [nthO_eq] at hj; simpa using hj
  have hy : yielded l.toArray a.tmps j = some b := by simp only [yielded, hj', Option.bind_some, hd, fr.get s _ hb]
  refine wpAny_take (v := v) ho' h1 h2 h3 (fun c a w k => hq c a _ _ w k) (.inl ⟨by simp [Region.wanted, hy, hw], fun w' => hr w' w' (Ext.refl _) _ fr.rho _ _ _ _⟩) ?_
  exact h _ (fr.put hn)
theorem N_no (i : Nat) {j s : Nat} {want b : Bool} {oj : Oper} (hq : NoPanic Q) (hc : hoistB l m done i = true) (ho : nthO l i = some ⟨some d, op, ty, pos, af, some (j, want)⟩) (hj : nthO l j = some oj) (hd : oj.dst = some s) (hb : gt L s = some (.bool b)) (hw : b = !want) (hn : Nat.blt d n.n = true)
    (h : Nv P n l Q fuel (lst m (i :: done)) ((d, undef) :: L) w) : Nv P n l Q (fuel + 1) (lst m done) L w := fun a fr => by
  simp only [hoistB, Bool.and_eq_true] at hc
  obtain ⟨⟨h1, h2⟩, h3⟩ := hc
  have ho' : l.toArray[i]? = some ⟨some d, op, ty, pos, af, some (j, want)⟩ := by rw [nthO_eq] at ho; simpa using ho
  have hj' : l.toArray[j]? = some oj := by rw [nthO_eq] at hj; simpa using hj
  have hy : yielded l.toArray a.tmps j = some b := by simp only [yielded, hj', Option.bind_some, hd, fr.get s _ hb]
  refine wpAny_take (v := undef) ho' h1 h2 h3 (fun c a w k => hq c a _ _ w k) (.inr ⟨by simp [Region.wanted, hy, hw], rfl⟩) ?_
  exact h _ (fr.put hn)
theorem N_no2 (i : Nat) {j s : Nat} {want : Bool} {oj : Oper} (hq : NoPanic Q) (hc : hoistB l m done i = true) (ho : nthO l i = some ⟨some d, op, ty, pos, af, some (j, want)⟩) (hj : nthO l j = some oj) (hd : oj.dst = some s) (hb : gt L s = some undef) (hn : Nat.blt d n.n = true)
    (h : Nv P n l Q fuel (lst m (i :: done)) ((d, undef) :: L) w) : Nv P n l Q (fuel + 1) (lst m done) L w := fun a fr => by
  simp only [hoistB, Bool.and_eq_true] at hc
  obtain ⟨⟨h1, h2⟩, h3⟩ := hc
  have ho' : l.toArray[i]? = some ⟨some d, op, ty, pos, af, some (j, want)⟩ := by rw [nthO_eq] at ho; simpa using ho
  have hj' : l.toArray[j]? = some oj := by rw [nthO_eq] at hj; simpa using hj
  have hy : yielded l.toArray a.tmps j = none := by simp only [yielded, hj', Option.bind_some, hd, fr.get s _ hb, undef]
  refine wpAny_take (v := undef) ho' h1 h2 h3 (fun c a w k => hq c a _ _ w k) (.inr ⟨by simp [Region.wanted, hy], rfl⟩) ?_
  exact h _ (fr.put hn)
theorem N_split {s : Nat} {b : Bool} {listed : Array Bool} (_hb : gt L s = some (.bool b)) (h1 : b = true → Nv P n l Q fuel listed L w) (h2 : b = false → Nv P n l Q fuel listed L w) : Nv P n l Q fuel listed L w := by
  cases b
  · exact h2 rfl
  · exact h1 rfl
end
end Go.E
