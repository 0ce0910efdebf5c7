/- Small regions that draw their order: every order. No program in sight. -/
import Derived.Test.YtdiieblgeaehpaaDoorEngG
namespace Go.E
open Go Go.RowKit

def nQ (P : Program) (l : List Oper) (Q : Exit → Act → World → Prop) (fuel : Nat) (listed : Array Bool) : Exit → Act → World → Prop := Exit.then (wpAny P .any l.toArray Q fuel listed) Q
def Nv (P : Program) (n : Sz) (l : List Oper) (Q : Exit → Act → World → Prop) (fuel : Nat) (listed : Array Bool) (L : Env) (w : World) : Prop := ∀ a, Fr n a L → wpAny P .any l.toArray Q fuel listed a w
def lst (n : Nat) (done : List Nat) : Array Bool := done.foldr (fun i a => a.setIfInBounds i true) (Array.replicate n false)

section
variable {P : Program} {n : Sz} {l : List Oper} {Q : Exit → Act → World → Prop} {L : Env} {w : World} {y : Code} {fuel : Nat} {m : Nat} {done : List Nat}

theorem W_naive {id : Nat} (hm : P.follows .mixedOrders = true) (hl : l.length = m) (h : ∀ w', Ext w w' → Nv P n l Q m (lst m []) L w') : W P n (.region id l.toArray true) Q L w := fun a fr => by
  refine wp_region_any hm ?_
  have := h _ drawn_world a fr
  subst hl
  simpa [lst] using this
theorem W_seqn {id : Nat} (hm : P.follows .mixedOrders = true) (hl : l.length = m) (h : ∀ w', Ext w w' → Nv P n l (seqQ P y Q) m (lst m []) L w') : W P n (.seq (.region id l.toArray true) y) Q L w :=
  W_seq (W_naive hm hl h)

theorem wpOp_of_S {i : Nat} {o : Oper} {K : Act → World → Prop} {a : Act} (ho : nthO l i = some o) (h : wpList P l.toArray (Exit.then K Q) [o] a w) (_hQ : ∀ e a w, e ≠ .normal → Exit.then K Q e a w → Q e a w) : wpOp P l.toArray Q i K a w := by
  have ho' : l.toArray[i]? = some o := by rw [nthO_eq] at ho; simpa using ho
  unfold wpOp
  simp only [ho']
  simp only [wpList] at h
  split
  · rename_i hw
    rw [if_pos hw] at h
    rcases h with h | ⟨h1, h2⟩
    · left
      unfold Oper.wp at h ⊢
      generalize (execOp a.eval o).run P w = r at h ⊢
      cases r with
      | ok nx w' =>
        cases nx <;> simp only [Oper.upon] at h ⊢
        case value v => exact h
        case skip => exact h
        case defer => exact h
        case enter f args => exact h.mono fun e w'' he => by
                              cases e with
                              | returned v => exact he
                              | panicked ch => exact he
                              | outgrown => exact he
        case row => exact h
      | halt hh w' => cases hh <;> simp only [Oper.upon] at h ⊢ <;> exact h
    · exact .inr ⟨h1, h2⟩
  · rename_i hw; rw [if_neg hw] at h; exact h

theorem N_op {i : Nat} {o : Oper} (ho : nthO l i = some o) (h : S P n l.toArray (nQ P l Q fuel (lst m (i :: done))) [o] L w) : ∀ a, Fr n a L → wpOp P l.toArray Q i (wpAny P .any l.toArray Q fuel ((lst m done).setIfInBounds i true)) a w :=
  fun a fr => wpOp_of_S ho (h a fr) (fun e a w hne he => by cases e <;> first | exact absurd rfl hne | exact he)

theorem N1 {i : Nat} {o : Oper} (hr : Region.ready .any l.toArray (lst m done) = [i]) (ho : nthO l i = some o) (h : S P n l.toArray (nQ P l Q fuel (lst m (i :: done))) [o] L w) : Nv P n l Q (fuel + 1) (lst m done) L w :=
  fun a fr => wpAny_all hr (by simp) fun k hk => by
    obtain rfl : k = i := by simpa using hk
    exact N_op ho h a fr
theorem N2 {i j : Nat} {o p : Oper} (hr : Region.ready .any l.toArray (lst m done) = [i, j]) (ho : nthO l i = some o) (hp : nthO l j = some p) (h : S P n l.toArray (nQ P l Q fuel (lst m (i :: done))) [o] L w) (h' : S P n l.toArray (nQ P l Q fuel (lst m (j :: done))) [p] L w) : Nv P n l Q (fuel + 1) (lst m done) L w :=
  fun a fr => wpAny_all hr (by simp) fun k hk => by
    have hk' : k = i ∨ k = j := by simpa using hk
    rcases hk' with rfl | rfl
    · exact N_op ho h a fr
    · exact N_op hp h' a fr
theorem N3 {i j s : Nat} {o p q : Oper} (hr : Region.ready .any l.toArray (lst m done) = [i, j, s]) (ho : nthO l i = some o) (hp : nthO l j = some p) (hq : nthO l s = some q) (h : S P n l.toArray (nQ P l Q fuel (lst m (i :: done))) [o] L w) (h' : S P n l.toArray (nQ P l Q fuel (lst m (j :: done))) [p] L w) (h'' : S P n l.toArray (nQ P l Q fuel (lst m (s :: done))) [q] L w) : Nv P n l Q (fuel + 1) (lst m done) L w :=
  fun a fr => wpAny_all hr (by simp) fun k hk => by
    have hk' : k = i ∨ k = j ∨ k = s := by simpa using hk
    rcases hk' with rfl | rfl | rfl
    · exact N_op ho h a fr
    · exact N_op hp h' a fr
    · exact N_op hq h'' a fr
theorem N_nil (h : Nv P n l Q fuel (lst m done) L w) : S P n l.toArray (nQ P l Q fuel (lst m done)) [] L w := fun a fr => h a fr
theorem N_end (hr : Region.ready .any l.toArray (lst m done) = []) (h : At n Q .normal L w) : Nv P n l Q 0 (lst m done) L w := fun a fr => ⟨hr, h a fr⟩
end

section
variable {P : Program} {n : Sz} {lo : List Oper} {Q : Exit → Act → World → Prop} {L : Env} {w w0 : World} {O : List Res} {tr : Tr} {ix : Nat}
  {d : Nat} {ty : TypeId} {pos : String} {af : Array Edge} {α : Type} {r : Rp α} {x y : Operand} {v : Value} {t e : TypeId}

/-- 'make([]T, n)' in a region that draws its order. -/
theorem D_make {bt m : Nat} {k k' : IntKind} {zz : Value} {c c' : Int} (ho : nthO lo ix = some ⟨some d, .makeSlice t x y, ty, pos, af, none⟩) (hx : ev L x = some (.int k c)) (hy : ev L y = some (.int k' c')) (hcc : c = m ∧ c' = m) (ht : P.underlying t = some (.slice e)) (hz : Zr P e zz 1 bt) (hzc : zz.cells = #[zz]) (hn : Nat.blt d n.n = true) (hL : Lcl w0 O w) (hm : bt * m ≤ 281474976710656 ∧ m ≤ 9223372036854775807)
    (h : ∀ v' w', Ext w w' → Lcl w0 (.row v' e 1 m (List.replicate m zz) :: O) w' → Le (fz w O) (fz w' (.row v' e 1 m (List.replicate m zz) :: O)) → D P n lo Q tr ((d, v') :: L) w') : D P n lo Q (.h ix tr) L w := by
  obtain ⟨inf, i1, i2, i3, i4⟩ := hz.parts
  obtain ⟨rfl, rfl⟩ := hcc
  refine D_hop (R := fun w1 v' w' => w'.ownsRow w1.heap.size e 1 v' m (List.replicate m zz)) ho hn (fun w1 hx1 ρ hρ => ?_) (fun w1 v' w' hx1 hx2 hR => ?_)
  · obtain ⟨w', hr, ho', hg⟩ := run_make_full (P := P) w1 w1.heap.size t e inf zz 1 ht i1 i2 i3 k k' m (by rw [i4]; exact hm.1) (by unfold maxLen; omega) (Nat.le_refl _)
    rw [hzc, Nat.mul_one, toList_madeCells_one] at ho'
    exact ⟨_, w', by simp [execOp, hρ x _ hx, hρ y _ hy, hr], grownBy_ext (run_drawn _ _ _ _ hr) hg, ho'⟩
  · obtain ⟨h1, h2⟩ := row_new (hL.call hx1) hx2 hR
    exact h v' w' (hx1.trans hx2) h1 ((fz_ext hL hx1).trans h2)

/-- A slice literal in a region that draws its order. -/
theorem D_lit {ps : List (Nat × Operand)} {vs : List (Nat × Value)} {len sz : Nat} {cs : List Value} (ho : nthO lo ix = some ⟨some d, .buildSlice t len ps.toArray, ty, pos, af, none⟩) (hp' : evp L ps = some vs) (hr : ∀ w, (Instr.buildSlice t len vs.toArray).run P w = .ok (.slice (some ⟨w.heap.size, 0, none⟩) len len) (w.alloc (.cells cs.toArray e))) (hc : cs.length = len * sz) (hlen : len ≤ 9223372036854775807) (hn : Nat.blt d n.n = true) (hL : Lcl w0 O w)
    (h : ∀ u w', Ext w w' → Lcl w0 O w' → Le (fz w O) (fz w' O) → Src (fz w' O) sz u len cs → D P n lo Q tr ((d, u) :: L) w') : D P n lo Q (.h ix tr) L w := by
  refine D_hop (R := fun w1 u w' => Src (nw w1 w') sz u len cs) ho hn (fun w1 hx1 ρ hρ => ?_) (fun w1 u w' hx1 hx2 hR => ?_)
  · have e1 := hρ.mapp _ _ hp'
    have e' : (ps.toArray.map fun (i, x) => (i, ρ x)) = vs.toArray := by rw [← e1]; simp
    refine ⟨_, _, by simp [execOp, e', hr w1, -List.map_toArray], ext_alloc w1 (.cells cs.toArray e), hc, some ⟨w1.heap.size, 0, none⟩, len, rfl, Nat.le_refl _, by unfold maxLen; omega, (fun e => by cases e), fun A hA _ => ?_⟩
    cases hA
    refine ⟨rfl, fun j u hu => ?_⟩
    simp only [Addr.add_lit, Nat.zero_add, cellP, nw, Nat.le_refl, if_true, heap_alloc_new]
    simpa using hu
  · have hL1 := hL.call hx1
    exact h u w' (hx1.trans hx2) (hL1.call hx2) ((fz_ext hL hx1).trans (fz_ext hL1 hx2)) (hR.mono (nw_fz hL1))

theorem D_litg {j : Nat} {want b : Bool} {s : Nat} {oj : Oper} {ps : List (Nat × Operand)} {vs : List (Nat × Value)} {len sz : Nat} {cs : List Value} (ho : nthO lo ix = some ⟨some d, .buildSlice t len ps.toArray, ty, pos, af, some (j, want)⟩) (hj : nthO lo j = some oj) (hd : oj.dst = some s) (hb : gt L s = some (.bool b)) (hw : b = want) (hp' : evp L ps = some vs) (hr : ∀ w, (Instr.buildSlice t len vs.toArray).run P w = .ok (.slice (some ⟨w.heap.size, 0, none⟩) len len) (w.alloc (.cells cs.toArray e))) (hc : cs.length = len * sz) (hlen : len ≤ 9223372036854775807) (hn : Nat.blt d n.n = true) (hL : Lcl w0 O w)
    (h : ∀ u w', Ext w w' → Lcl w0 O w' → Le (fz w O) (fz w' O) → Src (fz w' O) sz u len cs → D P n lo Q tr ((d, u) :: L) w') : D P n lo Q (.h ix tr) L w := by
  refine D_hopg (R := fun w1 u w' => Src (nw w1 w') sz u len cs) ho hj hd hb hw hn (fun w1 hx1 ρ hρ => ?_) (fun w1 u w' hx1 hx2 hR => ?_)
  · have e1 := hρ.mapp _ _ hp'
    have e' : (ps.toArray.map fun (i, x) => (i, ρ x)) = vs.toArray := by rw [← e1]; simp
    refine ⟨_, _, by simp [execOp, e', hr w1, -List.map_toArray], ext_alloc w1 (.cells cs.toArray e), hc, some ⟨w1.heap.size, 0, none⟩, len, rfl, Nat.le_refl _, by unfold maxLen; omega, (fun e => by cases e), fun A hA _ => ?_⟩
    cases hA
    refine ⟨rfl, fun j u hu => ?_⟩
    simp only [Addr.add_lit, Nat.zero_add, cellP, nw, Nat.le_refl, if_true, heap_alloc_new]
    simpa using hu
  · have hL1 := hL.call hx1
    exact h u w' (hx1.trans hx2) (hL1.call hx2) ((fz_ext hL hx1).trans (fz_ext hL1 hx2)) (hR.mono (nw_fz hL1))
/-- The same ones, looking at an older world. -/
theorem DB_lit {b : World} {ps : List (Nat × Operand)} {vs : List (Nat × Value)} {len sz : Nat} {cs : List Value} (ho : nthO lo ix = some ⟨some d, .buildSlice t len ps.toArray, ty, pos, af, none⟩) (hp' : evp L ps = some vs) (hr : ∀ w, (Instr.buildSlice t len vs.toArray).run P w = .ok (.slice (some ⟨w.heap.size, 0, none⟩) len len) (w.alloc (.cells cs.toArray e))) (hc : cs.length = len * sz) (hlen : len ≤ 9223372036854775807) (hn : Nat.blt d n.n = true) (hL : Lcl b O w)
    (h : ∀ u w', Lcl b O w' → Le (fz w O) (fz w' O) → Src (fz w' O) sz u len cs → DB P n lo Q tr ((d, u) :: L) b w') : DB P n lo Q (.h ix tr) L b w := by
  refine DB_hop (R := fun w1 u w' => Ext w1 w' ∧ Src (nw w1 w') sz u len cs) ho hn (fun w1 hx1 ρ hρ => ?_) (fun w1 u w' hx1 _ hR => ?_)
  · have e1 := hρ.mapp _ _ hp'
    have e' : (ps.toArray.map fun (i, x) => (i, ρ x)) = vs.toArray := by rw [← e1]; simp
    refine ⟨_, _, by simp [execOp, e', hr w1, -List.map_toArray], (hL.ext.trans hx1).trans (ext_alloc w1 (.cells cs.toArray e)), ext_alloc w1 (.cells cs.toArray e), hc, some ⟨w1.heap.size, 0, none⟩, len, rfl, Nat.le_refl _, by unfold maxLen; omega, (fun e => by cases e), fun A hA _ => ?_⟩
    cases hA
    refine ⟨rfl, fun j u hu => ?_⟩
    simp only [Addr.add_lit, Nat.zero_add, cellP, nw, Nat.le_refl, if_true, heap_alloc_new]
    simpa using hu
  · have hL1 := hL.call hx1
    exact h u w' (hL1.call hR.1) ((fz_ext hL hx1).trans (fz_ext hL1 hR.1)) (hR.2.mono (nw_fz hL1))
/-- 'append' to a row that the region has made. -/
theorem DB_append {b : World} (i : Nat) {sz bt m k : Nat} {zz u : Value} {xs news : List Value} (ho : nthO lo ix = some ⟨some d, .call ⟨.builtin .append, #[x, y], #[t, t]⟩, ty, pos, af, none⟩) (hx : ev L x = some v) (hy : ev L y = some u) (ht : P.underlying t = some (.slice e)) (hz : Zr P e zz sz bt) (hzs : zz.cells.size = sz) (hsz : 0 < sz) (hn : Nat.blt d n.n = true) (hL : Lcl b O w) (hi : nthR O i = some (.row v e sz m xs)) (hs : Src (fz w O) sz u k news) (h1 : ∀ c ∈ news, c.oneCell' = true)
    (hby : (m + k) * bt ≤ 140737488355328 ∧ m + k ≤ 9223372036854775807)
    (h : ∀ v' w', Lcl b (setR O i (.row v' e sz (m + k) (xs ++ news))) w' → Le (fz w O) (fz w' (setR O i (.row v' e sz (m + k) (xs ++ news)))) → DB P n lo Q tr ((d, v') :: L) b w') : DB P n lo Q (.h ix tr) L b w := by
  refine DB_hop (R := fun w1 v' w' => Lcl b (setR O i (.row v' e sz (m + k) (xs ++ news))) w' ∧ Le (fz w1 O) (fz w' (setR O i (.row v' e sz (m + k) (xs ++ news))))) ho hn (fun w1 hx1 ρ hρ => ?_) (fun w1 v' w' hx1 _ hR => h v' w' hR.1 ((fz_ext hL hx1).trans hR.2))
  obtain ⟨v', w', hr, hL', hle⟩ := run_append (ty := ty) ht hz hzs hsz (hL.call hx1) hi ((hs.mono (fz_ext hL hx1)).mono (fz_le _ _)) h1 hby.1 hby.2
  exact ⟨v', w', by simp [execOp, resolve, invoke, builtin, hρ x _ hx, hρ y _ hy, hr], hL'.ext, hL', hle⟩

theorem Le.mono {A B C : PH} (h : Le A B) (k : Le B C) : Le A C := h.trans k
/-- What is owned, in another order. -/
theorem Lcl.pick {i : Nat} {q : Res} (h : Lcl w0 O w) (hi : nthR O i = some q) : Lcl w0 (q :: delR O i) w := h.perm (perm_nth hi).symm
theorem fz_pick {i : Nat} {q : Res} (hi : nthR O i = some q) : Le (fz w O) (fz w (q :: delR O i)) := by rw [fz_perm (perm_nth hi)]; exact Le.refl _

theorem elems_zero (H : PH) (m : Nat) : Elems Rp.byte H (List.replicate m 0) (List.replicate m (.int .u8 0)) := by
  have := elems_bytes H (List.replicate m 0)
  rw [List.map_replicate] at this
  exact this
theorem elems_zeroI (H : PH) (m : Nat) : Elems (Rp.int .i64) H (List.replicate m 0) (List.replicate m (.int .i64 0)) := by
  have := elems_ints H (List.replicate m 0)
  rw [List.map_replicate] at this
  exact this
theorem Lcl.vecR2 {i m : Nat} {l : List α} {xs : List Value} {e' : TypeId} (hL : Lcl w0 O w) (hi : nthR O i = some (.row v e' r.sz m xs)) (hm : l.length = m) (he : Elems r (fz w O) l xs) : Vec r (hp w) v l := by
  subst hm; exact hL.vecR hi he
/-- A row of the call's own lies fast from now on, among what the call has made. -/
theorem Lcl.vecDN {i m : Nat} {l : List α} {xs : List Value} {e' : TypeId} (hL : Lcl w0 O w) (hi : nthR O i = some (.row v e' r.sz m xs)) (hm : l.length = m) (he : Elems r (nf w0 w O) l xs) : Vec r (nf w0 w (delR O i)) v l := by
  subst hm
  refine vec_of_row (hL.at hi) he (nf_mono (fz_dropAt hi)) (fun k hk o ho => ?_)
  unfold nf
  rw [if_pos (hL.own _ ((perm_nth hi).mem_iff.2 (.head _)) k hk), fz_hp_drop hi hk hL.dis]
  exact ho
theorem Lcl.vecD2 {i m : Nat} {l : List α} {xs : List Value} {e' : TypeId} (hL : Lcl w0 O w) (hi : nthR O i = some (.row v e' r.sz m xs)) (hm : l.length = m) (he : Elems r (fz w O) l xs) : Vec r (fz w (delR O i)) v l := by
  subst hm; exact hL.vecD hi he
end
end Go.E

namespace Go.E
open Go Go.RowKit
section
variable {P : Program} {L : Env} {w : World} {x y : Operand} {ty t t' : TypeId}
theorem r_max {a b : Int} (hx : ev L x = some (.int .i64 a)) (hy : ev L y = some (.int .i64 b)) : RunsAt P L w (.call ⟨.builtin .max, #[x, y], #[t, t']⟩) ty (.int .i64 (max a b)) := by
  intro w' _ ρ hρ dst pos af g
  simp [execOp, resolve, hρ x _ hx, hρ y _ hy, invoke, builtin, Builtin.max_, Builtin.max2]
  by_cases h : a < b
  · simp [h, show max a b = b by omega]
  · simp [h, show max a b = a by omega]
theorem r_maxN {a b : Int} (hx : ev L x = some (.int .i64 a)) (hy : ev L y = some (.int .i64 b)) (hb : 0 ≤ b) : RunsAt P L w (.call ⟨.builtin .max, #[x, y], #[t, t']⟩) ty (.int .i64 (((max a b).toNat : Nat) : Int)) := by
  rw [Int.toNat_of_nonneg (by omega)]
  exact r_max hx hy
end
/-- Two parts of memory together. -/
def un (A B : PH) : PH := fun b => match B b with
  | some o => some o
  | none => A b
theorem un_le {A B C : PH} (hA : Le A C) (hB : Le B C) : Le (un A B) C := fun b o e => by
  unfold un at e
  cases h : B b with
  | some o' => rw [h] at e; cases e; exact hB b o h
  | none => rw [h] at e; exact hA b o e
theorem le_un_right {A B : PH} : Le B (un A B) := fun b o e => by unfold un; rw [e]
theorem le_un_left {w w' : World} {A : PH} (hA : Le A (hp w)) : Le A (un A (nw w w')) := fun b o e => by
  have hb : b < w.heap.size := lt_of_heap (hA b o e)
  unfold un nw
  rw [if_neg (by omega)]; exact e
/-- A row of the call's own whose elements lie in memory that was there. -/
theorem Lcl.vecU {α : Type} {r : Rp α} {w0 w : World} {O : List Res} {i m : Nat} {v : Value} {l : List α} {xs : List Value} {e' : TypeId} {H : PH} (hL : Lcl w0 O w) (hH : Le H (hp w0)) (hi : nthR O i = some (.row v e' r.sz m xs)) (hm : l.length = m) (he : Elems r H l xs) : Vec r (un H (nw w0 w)) v l := by
  subst hm
  refine vec_of_row (hL.at hi) he (le_un_left hH) (fun k hk o ho => ?_)
  apply le_un_right
  unfold nw
  rw [if_pos (hL.own _ ((perm_nth hi).mem_iff.2 (.head _)) k hk)]; exact ho
end Go.E
