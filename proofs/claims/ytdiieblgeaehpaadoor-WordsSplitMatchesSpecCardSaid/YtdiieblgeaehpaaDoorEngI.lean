/- More operations on live slots; no program in sight. -/
import Derived.Test.YtdiieblgeaehpaaDoorEngH
namespace Go.E
open Go Go.RowKit
section
variable {P : Program} {L : Env} {w : World} {x y : Operand} {ty t t' : TypeId}
theorem r_max {a b : Int} (hx : ev L x = some (.int .i64 a)) (hy : ev L y = some (.int .i64 b)) : RunsAt P L w (.call ⟨.builtin .max, #[x, y], #[t, t']⟩) ty (.int .i64 (max a b)) := by
  intro w' _ ρ hρ dst pos af g
  simp [execOp, resolve, hρ x _ hx, hρ y _ hy, invoke, builtin, Builtin.max_, Builtin.max2]
  by_cases h : a < b
  · simp [h, show max a b = b by omega]
  · simp [h, show max a b = a by omega]
theorem r_maxN {a b : Int} (hx : ev L x = some (.int .i64 a)) (hy : ev L y = some (.int .i64 b)) (hb : 0 ≤ b) : RunsAt P L w (.call ⟨.builtin .max, #[x, y], #[t, t']⟩) ty (.int .i64 (((max a b).toNat : Nat) : Int)) := by
  rw [Int.toNat_of_nonneg (by omega)]
  exact r_max hx hy
end
/-- Two parts of memory together. -/
def un (A B : PH) : PH := fun b => match B b with
  | some o => some o
  | none => A b
theorem un_le {A B C : PH} (hA : Le A C) (hB : Le B C) : Le (un A B) C := fun b o e => by
  unfold un at e
  cases h : B b with
  | some o' => rw [h] at e; cases e; exact hB b o h
  | none => rw [h] at e; exact hA b o e
theorem le_un_right {A B : PH} : Le B (un A B) := fun b o e => by unfold un; rw [e]
theorem le_un_left {w w' : World} {A : PH} (hA : Le A (hp w)) : Le A (un A (nw w w')) := fun b o e => by
  have hb : b < w.heap.size := lt_of_heap (hA b o e)
  unfold un nw
  rw [if_neg (by omega)]; exact e
/-- A row of the call's own whose elements lie in memory that was there. -/
theorem Lcl.vecU {α : Type} {r : Rp α} {w0 w : World} {O : List Res} {i m : Nat} {v : Value} {l : List α} {xs : List Value} {e' : TypeId} {H : PH} (hL : Lcl w0 O w) (hH : Le H (hp w0)) (hi : nthR O i = some (.row v e' r.sz m xs)) (hm : l.length = m) (he : Elems r H l xs) : Vec r (un H (nw w0 w)) v l := by
  subst hm
  refine vec_of_row (hL.at hi) he (le_un_left hH) (fun k hk o ho => ?_)
  apply le_un_right
  unfold nw
  rw [if_pos (hL.own _ ((perm_nth hi).mem_iff.2 (.head _)) k hk)]; exact ho
end Go.E
