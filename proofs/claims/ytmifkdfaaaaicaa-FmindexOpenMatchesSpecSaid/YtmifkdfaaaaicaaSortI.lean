/- slices.Sort of numbers and slices.Insert of one number, as rules of the walk of this seat. -/
import Derived.Test.YtmifkdfaaaaicaaQ2
import Derived.Test.YtmifkdfaaaaicaaSort
import Derived.Test.YtmifkdfaaaaicaaIns
import Derived.Test.YtmifkdfaaaaicaaShelfB
namespace Go.L
/-- Numbers in order. -/
def srt (l : List Int) : List Int := l.mergeSort fun x y => decide (x ≤ y)
theorem srt_length (l : List Int) : (srt l).length = l.length := List.length_mergeSort _
end Go.L
namespace Go.E
open Go Go.RowKit Go.Sort Go.Proofs Go.Shelf
variable {P : Program} {n : Nat} {ops : Array Oper} {Q : Exit → Act → World → Prop} {L : Env} {w w0 : World} {O : List Res} {rest : List Oper} {d : Nat} {ty : TypeId} {pos : String} {af : Array Edge} {v u : Value} {e : TypeId} {H : PH}
/-- 'slices.Sort(x)', x an owned row of numbers. -/
theorem S_sortI {ρr : Go.Shelf.Ren} {f i : Nat} {at_ : Array TypeId} {l : List Int} {xs : List Value} {args : List Operand} (Ls : Lays.n189 P ρr) (hf : ρr.f 189 = f) (hc : Callable P f) (ha : evl L args = some [v]) (hn : Nat.blt d n = true) (hL : Lcl w0 O w) (hi : nthR O i = some (.row v e 1 l.length xs)) (he : Elems (.int .i64) (gz H w0 w O) l xs) (hlen : l.length < 4611686018427387904)
    (h : ∀ (w' : World) xs', Lcl w0 (setR O i (.row v e 1 (Go.L.srt l).length xs')) w' → Le (fz w O) (fz w' (setR O i (.row v e 1 (Go.L.srt l).length xs'))) → Elems (.int .i64) (gz H w0 w' (setR O i (.row v e 1 (Go.L.srt l).length xs'))) (Go.L.srt l) xs' → S P n ops Q rest ((d, .tuple #[]) :: L) w') :
    S P n ops Q (⟨some d, .call ⟨.value (.func f), args.toArray, at_⟩, ty, pos, af, none⟩ :: rest) L w := by
  have hxs : xs = l.map iv := ints_elems he
  subst hxs
  have hown : w.ownsRow 0 e 1 v l.length (l.map iv) := hL.at hi
  rcases hown.2 with ⟨rfl, hn0⟩ | ⟨g0, cap, cur, rfl, _⟩
  · have hnil : l = [] := List.eq_nil_of_length_eq_zero hn0
    subst hnil
    have hs : Calls P (ρr.f 189) #[.slice none 0 0] w fun e w' => e = .returned (.tuple #[]) ∧ w' = w := calls_of_every_depth fun D => AnyS.slices_Sort_int_none_in Ls D none 0 w
    rw [hf] at hs
    refine S_op rfl fun a fr => ?_
    unfold Oper.wp
    rw [run_call hc ha _ fr.rho]
    refine hs.mono fun en w' ⟨he, hw⟩ => ?_
    subst he; subst hw
    rw [show Go.L.srt [] = [] from List.mergeSort_nil] at h
    exact h w' [] (hL.turnAt hi (Nat.le_refl _) (World.grownBy.refl _ _) (hL.at hi) (fun b e => .inl e)) (fz_turnAt (r' := .row (.slice none 0 0) e 1 0 []) hL hi (World.grownBy.refl _ _) (fun b e => .inl e)) (elems_ints _ []) _ (fr.put hn)
  subst hf
  obtain ⟨hH, hblk⟩ := row_holds hown
  have hs := Any.slices_Sort_int Ls g0 0 cap l w hH hblk hlen
  refine S_op rfl fun a fr => ?_
  unfold Oper.wp
  rw [run_call hc ha _ fr.rho]
  refine hs.mono fun en w' ⟨he, m, os, hw⟩ => ?_
  subst he
  have hl' : (Go.L.srt l).length = l.length := Go.L.srt_length l
  have hw' : w' = sortWorld (Value.int .i64) w g0 0 m (Go.L.srt l).toArray os := hw
  have hgr := sortWorld_grown (Value.int .i64) w g0 m (Go.L.srt l).toArray os
  rw [← hw'] at hgr
  have hok : (Res.row (.slice (some ⟨g0, 0, none⟩) l.length cap) e 1 (Go.L.srt l).length ((Go.L.srt l).map iv)).ok w' := by
    rw [hw']; exact row_sorted (enc := Value.int .i64) hown hl'
  have hdr : w.drawn ≤ w'.drawn := by rw [hw']; exact Nat.le_add_right _ _
  exact h w' _ (hL.turnAt hi hdr hgr hok (fun b e => .inl e)) (fz_turnAt (r' := .row (.slice (some ⟨g0, 0, none⟩) l.length cap) e 1 (Go.L.srt l).length ((Go.L.srt l).map iv)) hL hi hgr (fun b e => .inl e)) (elems_ints _ _) _ (fr.put hn)
/-- 'slices.Insert(x, k, z)', x an owned row of numbers. -/
theorem S_insE {ρr : Go.Shelf.Ren} {f i j : Nat} {k z : Int} {at_ : Array TypeId} {l : List Int} {xs zs : List Value} {args : List Operand} (Ls : Lays2.n21 P ρr) (hf : ρr.f 21 = f) (hte : ρr.t 3 = e) (hc : Callable P f) (ha : evl L args = some [v, .int .i64 k, u]) (hn : Nat.blt d n = true) (hL : Lcl w0 O w) (hij : i ≠ j) (hi : nthR O i = some (.row v e 1 l.length xs)) (he : Elems (.int .i64) (gz H w0 w O) l xs) (hj : nthR O j = some (.row u e 1 [z].length zs)) (hz : Elems (.int .i64) (gz H w0 w O) [z] zs) (hk : (0 ≤ k ∧ k ≤ (l.length : Int)) ∧ (l.length + 1) * 8 ≤ 140737488355328)
    (h : ∀ (v' : Value) (w' : World) xs', Lcl w0 (setR O i (.row v' e 1 (l.take k.toNat ++ z :: l.drop k.toNat).length xs')) w' → Le (fz w O) (fz w' (setR O i (.row v' e 1 (l.take k.toNat ++ z :: l.drop k.toNat).length xs'))) → Elems (.int .i64) (gz H w0 w' (setR O i (.row v' e 1 (l.take k.toNat ++ z :: l.drop k.toNat).length xs'))) (l.take k.toNat ++ z :: l.drop k.toNat) xs' → S P n ops Q rest ((d, v') :: L) w') :
    S P n ops Q (⟨some d, .call ⟨.value (.func f), args.toArray, at_⟩, ty, pos, af, none⟩ :: rest) L w := by
  have hxs : xs = l.map iv := ints_elems he
  have hzs : zs = [iv z] := ints_elems hz
  subst hxs
  subst hzs
  have hlm : (l.map iv).length = l.length := List.length_map _
  have hkn : (k.toNat : Int) = k := Int.toNat_of_nonneg hk.1.1
  have hll : (l.take k.toNat ++ z :: l.drop k.toNat).length = (l.map iv).length + 1 := by simp; omega
  have hmm : (l.take k.toNat ++ z :: l.drop k.toNat).map iv = (l.map iv).take k.toNat ++ iv z :: (l.map iv).drop k.toNat := by simp
  refine S_insI (i := i) (j := j) (k := k.toNat) (cs := l.map iv) (z := iv z) Ls hf hte hc (by rw [hkn]; exact ha) hn hL hij (by rw [hlm]; exact hi) hj (by rw [hlm]; omega) (by rw [hlm]; exact hk.2) (fun c hc => by obtain ⟨q, _, rfl⟩ := List.mem_map.1 hc; rfl) rfl fun v' w' h1 h2 => ?_
  rw [← hll, ← hmm] at h1 h2
  exact h v' w' _ h1 h2 (elems_ints _ _)
end Go.E
