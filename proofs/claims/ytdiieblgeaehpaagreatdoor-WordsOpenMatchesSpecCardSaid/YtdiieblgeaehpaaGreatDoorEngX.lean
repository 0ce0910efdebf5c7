/- Keys of maps: strings, pairs of ints; what is known of a key in a map that lies fast. No program in sight. -/
import Derived.Test.YtdiieblgeaehpaaGreatDoorEngU
import Derived.Lib.Builder
import Derived.Lib.UnsafeStr
namespace Go.E
open Go Go.RowKit
theorem ba_eq (a b : List UInt8) : ((⟨a.toArray⟩ : ByteArray) == ⟨b.toArray⟩) = decide (a = b) := by
  have : ((⟨a.toArray⟩ : ByteArray) == ⟨b.toArray⟩) = (a.toArray == b.toArray) := rfl
  rw [this, Bool.eq_iff_iff]; simp
def encS (s : List UInt8) : Value := .string ⟨s.toArray⟩
theorem keyOk_str {P : Program} {kt : TypeId} (hd : P.underlying kt = some .string) : KeyOk P kt encS :=
  ⟨fun b k w => by
      obtain ⟨d, he⟩ : ∃ d, 10000 = d + 1 := ⟨9999, rfl⟩
      rw [he]
      simp [Instr.checkKey, encS, run_underlying hd],
    fun k => by simp [Instr.sameBits, encS, ba_eq],
    ⟨_, hd, .inl fun a b => by simp only [Instr.sameNow, encS, ba_eq]⟩⟩
def encII (h : Int × Int) : Value := .agg #[.int .i64 h.1, .int .i64 h.2]
theorem keyOk_ii {P : Program} {kt : TypeId} {fs : Array Field} (hd : P.underlying kt = some (.struct fs)) (hc : ∀ (b : Bool) (x y : Int) w, (Instr.checkKey b 10000 kt (.agg #[.int .i64 x, .int .i64 y])).run P w = .ok () w)
    (he : ∀ (a b c e : Int) w, (Op.equalIn 10000 kt (.agg #[.int .i64 a, .int .i64 b]) (.agg #[.int .i64 c, .int .i64 e])).run P w = .ok (decide (a = c ∧ b = e)) w) : KeyOk P kt encII :=
  ⟨fun b k w => hc b k.1 k.2 w,
    fun k => by
      obtain ⟨d, he⟩ : ∃ d, 10000 = d + 1 := ⟨9999, rfl⟩
      rw [he]
      cases d <;> simp [Instr.sameBits, encII],
    ⟨_, hd, .inr ⟨fun a b => rfl, fun a b w => by
      have := he a.1 a.2 b.1 b.2 w
      unfold Op.equal
      rw [show Op.maxDepth = 10000 from rfl]
      obtain ⟨a1, a2⟩ := a
      obtain ⟨b1, b2⟩ := b
      simp only [encII]
      rw [this]
      congr 1
      rw [Bool.eq_iff_iff]
      simp⟩⟩⟩
section
variable {P : Program} {n : Sz} {ops : Array Oper} {Q : Exit → Act → World → Prop} {L : Env} {w : World} {rest : List Oper} {d : Nat} {ty t kt et : TypeId} {pos : String} {af : Array Edge} {x y : Operand}
  {κ α : Type} [DecidableEq κ] {enc : κ → Value} {r : Rp α} {l : List (κ × List α)} {k : κ} {H : PH} {v : Value}
theorem S_lookF (hx : ev L x = some v) (hy : ev L y = some (enc k)) (ht : P.underlying t = some (.map kt et)) (hk : KeyOk P kt enc) (hz : Mz P et (.slice none 0 0)) (hm : VMap enc (.vec r) H v l) (hs : Le H (hp w)) (hn : Nat.blt d n.n = true)
    (h : ∀ u, Vec r H u (Go.L.mget [] k l) → S P n ops Q rest ((d, u) :: L) w) : S P n ops Q (⟨some d, .lookup t x y false, ty, pos, af, none⟩ :: rest) L w := by
  obtain ⟨u, h1, h2⟩ := lookF (ty := ty) hm hk ht hz hx hy hs
  exact S_v h1 hn (h u h2)
end
/-- How elements of slices lie in cells. -/
abbrev cwII (h : Int × Int) : List Value := [.int .i64 h.1, .int .i64 h.2]
theorem rel_II : ∀ (G : PH) (x : Int × Int) (c : List Value), (Rp.pair (.int .i64) (.int .i64)).rel G x c ↔ c = cwII x :=
  fun _ _ _ => ⟨fun ⟨_, _, h, h1, h2⟩ => by subst h1; subst h2; exact h, fun h => ⟨_, _, h, rfl, rfl⟩⟩
abbrev cwI (h : Int) : List Value := [.int .i64 h]
/-- Three fields: a string, two ints. -/
theorem eq_sii {P : Program} {t : TypeId} {f0 f1 f2 : Field} {k1 k2 : IntKind} (ht : P.underlying t = some (.struct (P.fieldsOf t))) (hp : P.stoodInHeld t = false) (hf : (P.fieldsOf t).toList = [f0, f1, f2]) (h0 : f0.name ≠ "_" ∧ f0.offset = 0) (h1 : f1.name ≠ "_" ∧ f1.offset = 1) (h2 : f2.name ≠ "_" ∧ f2.offset = 2)
    (u0 : P.underlying f0.type = some .string) (u1 : P.underlying f1.type = some (.int k1)) (u2 : P.underlying f2.type = some (.int k2)) (s m : List UInt8) (a b c e : Int) (w : World) :
    (Op.equalIn 10000 t (.agg #[.string ⟨s.toArray⟩, .int k1 a, .int k2 b]) (.agg #[.string ⟨m.toArray⟩, .int k1 c, .int k2 e])).run P w = .ok (decide (s = m ∧ a = c ∧ b = e)) w := by
  rw [run_equalIn_struct w 9999 t _ _ ht hp, hf]
  have hs : ∀ (dd : Nat) (s m : List UInt8), (Op.equalIn (dd + 1) f0.type (.string ⟨s.toArray⟩) (.string ⟨m.toArray⟩)).run P w = .ok (decide (s = m)) w := fun dd s m => by
    simp [Op.equalIn, run_underlying u0, ba_eq]
  have key : ∀ dd : Nat, (Op.eqFields (dd + 1) #[.string ⟨s.toArray⟩, .int k1 a, .int k2 b] #[.string ⟨m.toArray⟩, .int k1 c, .int k2 e] [f0, f1, f2]).run P w = .ok (decide (s = m ∧ a = c ∧ b = e)) w := by
    intro dd
    by_cases e0 : s = m <;> by_cases e1 : a = c <;> by_cases e2 : b = e <;>
      simp [Op.eqFields, h0.1, h1.1, h2.1, h0.2, h1.2, h2.2, part, isAgg, run_underlying u0, run_underlying u1, run_underlying u2, hs, run_equalIn_int w dd _ _ _ _ _ u1, run_equalIn_int w dd _ _ _ _ _ u2, e0, e1, e2]
  exact key 9998
end Go.E
namespace Go.E
open Go Go.RowKit
/-- An operation that waits for all others. -/
def lastB (ops : Array Oper) (j : Nat) : Bool := match ops[j]? with
  | some oj => (List.range ops.size).all fun k => k == j || oj.after.any fun e => Region.binds .any e && e.on == k
  | none => false
theorem lastB_not {ops : Array Oper} {i j : Nat} {oj : Oper} (hj : ops[j]? = some oj) (hi : i < ops.size) (hne : i ≠ j) (hnot : ∀ e ∈ oj.after, Region.binds .any e = true → e.on ≠ i) : lastB ops j = false := by
  unfold lastB
  rw [hj]
  simp only
  cases h : (List.range ops.size).all (fun k => k == j || oj.after.any fun e => Region.binds .any e && e.on == k) with
  | false => rfl
  | true =>
    have h1 := List.all_eq_true.1 h i (List.mem_range.2 hi)
    simp only [Bool.or_eq_true, beq_iff_eq, hne, false_or] at h1
    obtain ⟨e, he, hb⟩ := Array.any_eq_true'.1 h1
    simp only [Bool.and_eq_true, beq_iff_eq] at hb
    exact absurd hb.2 (hnot e he hb.1)
section
variable (Inv : World → Prop) (P : Program) (ops : Array Oper) (Q : Exit → Act → World → Prop)
/-- Every order; between the operations Inv holds. -/
def wpAnyI : Nat → Array Bool → Act → World → Prop
  | 0, listed, a, w => Region.ready .any ops listed = [] ∧ Q .normal a w
  | m + 1, listed, a, w => (Region.ready .any ops listed = [] → Q .normal a w) ∧
    ∀ i ∈ Region.ready .any ops listed, wpOp P ops Q i (fun a' w' => (lastB ops i = true ∨ Inv w') ∧ wpAnyI m (listed.setIfInBounds i true) a' w') a w
/-- The value of an operation wherever Inv holds. -/
def YieldsI (o : Oper) (v : Value) (a : Act) : Prop :=
  (Region.wanted o (yielded ops a.tmps) = true ∧ ∀ w, Inv w → (execOp a.eval o).run P w = .ok (.value v) w) ∨
  (Region.wanted o (yielded ops a.tmps) = false ∧ v = undef)
end
section
variable {Inv : World → Prop} {P : Program} {ops : Array Oper} {Q : Exit → Act → World → Prop}
theorem wpAnyI_any : ∀ (m : Nat) (listed : Array Bool) (a : Act) (w : World), wpAnyI Inv P ops Q m listed a w → wpAny P .any ops Q m listed a w
  | 0, _, _, _, h => h
  | m + 1, _listed, _a, _w, h => ⟨h.1, fun i hi => wpOp_mono (fun _a' _w' k => wpAnyI_any m _ _ _ k.2) (h.2 i hi)⟩
theorem YieldsI.same {o : Oper} {v : Value} {a a' : Act} (hy : YieldsI Inv P ops o v a) (he : execOp a'.eval o = execOp a.eval o) (hw : Region.wanted o (yielded ops a'.tmps) = Region.wanted o (yielded ops a.tmps)) : YieldsI Inv P ops o v a' := by
  unfold YieldsI at *
  rw [he, hw]; exact hy
theorem YieldsI.op {i : Nat} {o : Oper} {v : Value} {a : Act} {w : World} (hi : ops[i]? = some o) (hy : YieldsI Inv P ops o v a) (hw : Inv w) {K : Act → World → Prop} (h : K (a.put o.dst v) w) : wpOp P ops Q i K a w := by
  unfold wpOp
  simp only [hi]
  rcases hy with ⟨h1, hv⟩ | ⟨h1, rfl⟩
  · simp only [h1, if_true, Oper.wp, hv w hw, Oper.upon]; exact .inl h
  · simp only [h1, Bool.false_eq_true, if_false]; exact h
/-- An operation made before another one whose value is known. -/
theorem op_putI {j : Nat} {oi oj : Oper} {v : Value} (hj : ops[j]? = some oj) (hap : oi.apart ops oj = true) (hsi : ∀ cs b, oi.op ≠ .select cs b) (hsj : ∀ cs b, oj.op ≠ .select cs b)
    (hQ : ∀ c a w, Q (.panic c) (a.put oi.dst v) w → Q (.panic c) a w) {K : Act → World → Prop} {a : Act} {w : World} (hy : YieldsI Inv P ops oi v a) (h : wpOp P ops Q j K (a.put oi.dst v) w) :
    wpOp P ops Q j (fun a' w' => YieldsI Inv P ops oi v a' ∧ K (a'.put oi.dst v) w') a w := by
  obtain ⟨h1, h2, h3⟩ := Oper.apart_spec hap
  have keep : ∀ a, YieldsI Inv P ops oi v a → ∀ u, YieldsI Inv P ops oi v (a.put oj.dst u) := fun a hy u => hy.same (execOp_put oi hsi a oj.dst u h3) (wanted_put oi a oj.dst u h3)
  unfold wpOp at *
  simp only [hj] at *
  rw [wanted_put oj a oi.dst v h1] at h
  split
  · rename_i hw
    simp only [hw, if_true] at h
    rcases h with h | ⟨ha, hl⟩
    case inr => exact .inr ⟨by unfold Oper.asks at *; rw [execOp_put oj hsj a oi.dst v h1] at ha; exact ha, hl⟩
    refine .inl ?_
    unfold Oper.wp at *
    rw [execOp_put oj hsj a oi.dst v h1] at h
    generalize (execOp a.eval oj).run P w = r at *
    cases r with
    | ok x w' =>
      cases x <;> simp only [Oper.upon] at h ⊢
      case value u => exact ⟨keep a hy u, by rw [← Act.put_comm a v u h2]; exact h⟩
      case skip => exact ⟨keep a hy _, by rw [← Act.put_comm a v undef h2]; exact h⟩
      case defer d =>
        refine ⟨keep { a with defers := d :: a.defers } (hy.same rfl rfl) _, ?_⟩
        rw [← Act.put_comm _ v undef h2, ← Act.put_defers]
        exact h
      case enter f args =>
        refine h.mono fun e w'' he => ?_
        cases e with
        | returned u => exact ⟨keep a hy u, by rw [← Act.put_comm a v u h2]; exact he⟩
        | panicked c => exact hQ _ _ _ he
        | outgrown => exact he
      case row row args => exact Rows.mono h fun u w'' he => ⟨keep a hy u, by rw [← Act.put_comm a v u h2]; exact he⟩
    | halt x w' =>
      cases x <;> simp only [Oper.upon] at h ⊢
      case panic u => exact hQ _ _ _ h
  · rename_i hw
    simp only [hw] at h
    exact ⟨keep a hy _, by rw [← Act.put_comm a v undef h2]; exact h⟩
theorem anyI_first {i : Nat} {oi : Oper} {v : Value} (hi : ops[i]? = some oi) (hsel : ∀ (j : Nat) (o : Oper) cs b, ops[j]? = some o → o.op ≠ .select cs b) (hQ : ∀ c a w, Q (.panic c) (a.put oi.dst v) w → Q (.panic c) a w) :
    ∀ (m : Nat) (listed : Array Bool) (a : Act) (w : World),
      (∀ j oj, ops[j]? = some oj → j ≠ i → listed.getD j true = false → (∀ e ∈ oj.after, Region.binds .any e = true → e.on ≠ i) → oi.apart ops oj = true) →
      i ∈ Region.ready .any ops listed → Inv w → YieldsI Inv P ops oi v a → wpAnyI Inv P ops Q m (listed.setIfInBounds i true) (a.put oi.dst v) w → wpAnyI Inv P ops Q (m + 1) listed a w := by
  intro m
  induction m with
  | zero =>
    intro listed a w _ hr hw hy H
    refine ⟨fun h => (by rw [h] at hr; cases hr), fun j hj => ?_⟩
    by_cases hji : j = i
    · subst hji; exact hy.op hi hw ⟨.inr hw, H⟩
    · have := ready_mono hj hji
      rw [H.1] at this
      cases this
  | succ m ih =>
    intro listed a w hfree hr hw hy H
    refine ⟨fun h => (by rw [h] at hr; cases hr), fun j hj => ?_⟩
    by_cases hji : j = i
    · subst hji; exact hy.op hi hw ⟨.inr hw, H⟩
    · have h1 := H.2 j (ready_mono hj hji)
      obtain ⟨hjun, oj, hoj, hall⟩ := mem_ready.1 hj
      have hnot : ∀ e ∈ oj.after, Region.binds .any e = true → e.on ≠ i := fun e he hb heq => by
        have h1 := hall e he hb
        have h0 := (mem_ready.1 hr).1
        rw [heq] at h1
        rcases Nat.lt_or_ge i listed.size with h' | h'
        · simp [h'] at h0 h1; rw [h0] at h1; cases h1
        · simp [Array.getElem?_eq_none h'] at h1
      have h2 := op_putI hoj (hfree j oj hoj hji hjun hnot) (fun cs b => hsel i oi cs b hi) (fun cs b => hsel j oj cs b hoj) hQ hy h1
      have hfree' : ∀ k ok, ops[k]? = some ok → k ≠ i → (listed.setIfInBounds j true).getD k true = false →
          (∀ e ∈ ok.after, Region.binds .any e = true → e.on ≠ i) → oi.apart ops ok = true := fun k ok hk hki hun hno => by
        refine hfree k ok hk hki ?_ hno
        by_cases hjk : j = k
        · subst hjk; exact hjun
        · rw [getD_set_ne true hjk] at hun; exact hun
      have hri : i ∈ Region.ready .any ops (listed.setIfInBounds j true) := ready_mono hr (Ne.symm hji)
      refine wpOp_mono (fun a' w' ⟨hy', hI, hk⟩ => ?_) h2
      have hset : wpAnyI Inv P ops Q m ((listed.setIfInBounds j true).setIfInBounds i true) (a'.put oi.dst v) w' := by
        rw [Array.setIfInBounds_comm _ _ hji]; exact hk
      have hi' := (Array.getElem?_eq_some_iff.1 hi).1
      have hI' : Inv w' := hI.resolve_left (by rw [lastB_not hoj hi' (Ne.symm hji) hnot]; simp)
      exact ⟨.inr hI', ih _ a' w' hfree' hri hI' hy' hset⟩
end
def nQI (Inv : World → Prop) (P : Program) (l : List Oper) (Q : Exit → Act → World → Prop) (fuel i : Nat) (listed : Array Bool) : Exit → Act → World → Prop := Exit.then (fun a w => (lastB l.toArray i = true ∨ Inv w) ∧ wpAnyI Inv P l.toArray Q fuel listed a w) Q
def Nw (Inv : World → Prop) (P : Program) (n : Sz) (l : List Oper) (Q : Exit → Act → World → Prop) (fuel : Nat) (listed : Array Bool) (L : Env) (w : World) : Prop := ∀ a, Fr n a L → wpAnyI Inv P l.toArray Q fuel listed a w
section
variable {Inv : World → Prop} {P : Program} {n : Sz} {l : List Oper} {Q : Exit → Act → World → Prop} {L : Env} {w : World} {y : Code} {fuel : Nat} {m : Nat} {done : List Nat}
theorem W_naiveI {id : Nat} (Inv : World → World → Prop) (hm : P.follows .mixedOrders = true) (hl : l.length = m) (h : ∀ w', Ext w w' → Nw (Inv w') P n l Q m (lst m []) L w') : W P n (.region id l.toArray true) Q L w := fun a fr => by
  refine wp_region_any hm ?_
  have := wpAnyI_any _ _ _ _ (h _ drawn_world a fr)
  subst hl
  simpa [lst] using this
theorem NI_op {i : Nat} {o : Oper} (ho : nthO l i = some o) (h : S P n l.toArray (nQI Inv P l Q fuel i (lst m (i :: done))) [o] L w) :
    ∀ a, Fr n a L → wpOp P l.toArray Q i (fun a' w' => (lastB l.toArray i = true ∨ Inv w') ∧ wpAnyI Inv P l.toArray Q fuel ((lst m done).setIfInBounds i true) a' w') a w :=
  fun a fr => wpOp_of_S ho (h a fr) (fun e a w hne he => by cases e <;> first | exact absurd rfl hne | exact he)
theorem anyI_all {rs : List Nat} {listed : Array Bool} {a : Act} (hr : Region.ready .any l.toArray listed = rs) (hne : rs ≠ [])
    (h : ∀ i ∈ rs, wpOp P l.toArray Q i (fun a' w' => (lastB l.toArray i = true ∨ Inv w') ∧ wpAnyI Inv P l.toArray Q fuel (listed.setIfInBounds i true) a' w') a w) : wpAnyI Inv P l.toArray Q (fuel + 1) listed a w :=
  ⟨fun e => by rw [hr] at e; exact absurd e hne, fun i hi => h i (by rw [← hr]; exact hi)⟩
theorem NI1 {i : Nat} {o : Oper} (hr : Region.ready .any l.toArray (lst m done) = [i]) (ho : nthO l i = some o) (h : S P n l.toArray (nQI Inv P l Q fuel i (lst m (i :: done))) [o] L w) : Nw Inv P n l Q (fuel + 1) (lst m done) L w :=
  fun a fr => anyI_all hr (by simp) fun k hk => by
    obtain rfl : k = i := by simpa using hk
    exact NI_op ho h a fr
theorem NI2 {i j : Nat} {o p : Oper} (hr : Region.ready .any l.toArray (lst m done) = [i, j]) (ho : nthO l i = some o) (hp : nthO l j = some p) (h : S P n l.toArray (nQI Inv P l Q fuel i (lst m (i :: done))) [o] L w) (h' : S P n l.toArray (nQI Inv P l Q fuel j (lst m (j :: done))) [p] L w) : Nw Inv P n l Q (fuel + 1) (lst m done) L w :=
  fun a fr => anyI_all hr (by simp) fun k hk => by
    have hk' : k = i ∨ k = j := by simpa using hk
    rcases hk' with rfl | rfl
    · exact NI_op ho h a fr
    · exact NI_op hp h' a fr
theorem NI_nil {i : Nat} (hI : Inv w) (h : Nw Inv P n l Q fuel (lst m done) L w) : S P n l.toArray (nQI Inv P l Q fuel i (lst m done)) [] L w := fun a fr => ⟨.inr hI, h a fr⟩
theorem NI_last {i : Nat} (hl : lastB l.toArray i = true) (h : Nw Inv P n l Q fuel (lst m done) L w) : S P n l.toArray (nQI Inv P l Q fuel i (lst m done)) [] L w := fun a fr => ⟨.inl hl, h a fr⟩
theorem NI_end (hr : Region.ready .any l.toArray (lst m done) = []) (h : At n Q .normal L w) : Nw Inv P n l Q 0 (lst m done) L w := fun a fr => ⟨hr, h a fr⟩
theorem At_nI_panic {i : Nat} {listed : Array Bool} {c : List PanicEntry} (h : At n Q (.panic c) L w) : At n (nQI Inv P l Q fuel i listed) (.panic c) L w := h
theorem NI_split {s : Nat} {b : Bool} {listed : Array Bool} (_hb : gt L s = some (.bool b)) (h1 : b = true → Nw Inv P n l Q fuel listed L w) (h2 : b = false → Nw Inv P n l Q fuel listed L w) : Nw Inv P n l Q fuel listed L w := by
  cases b
  · exact h2 rfl
  · exact h1 rfl
variable {d : Nat} {op : Op} {ty : TypeId} {pos : String} {af : Array Edge}
theorem NI_hoist (i : Nat) {v : Value} (hq : NoPanic Q) (hI : Inv w) (hc : hoistB l m done i = true) (ho : nthO l i = some ⟨some d, op, ty, pos, af, none⟩) (hr : ∀ w, Inv w → RunsAt P L w op ty v) (hn : Nat.blt d n.n = true)
    (h : Nw Inv P n l Q fuel (lst m (i :: done)) ((d, v) :: L) w) : Nw Inv P n l Q (fuel + 1) (lst m done) L w := fun a fr => by
  simp only [hoistB, Bool.and_eq_true] at hc
  obtain ⟨⟨h1, h2⟩, h3⟩ := hc
  have ho' : l.toArray[i]? = some ⟨some d, op, ty, pos, af, none⟩ := by rw [nthO_eq] at ho; simpa using ho
  exact anyI_first (v := v) ho' (Region.noSelect_spec h1) (fun c a w k => hq c a _ _ w k) _ _ a w (Region.free_spec ho' h2) (by simpa using h3) hI
    (.inl ⟨by simp [Region.wanted], fun w' hw' => hr w' hw' w' (Ext.refl _) _ fr.rho _ _ _ _⟩) (h _ (fr.put hn))
theorem NI_hoistg (i : Nat) {v : Value} {j s : Nat} {want b : Bool} {oj : Oper} (hq : NoPanic Q) (hI : Inv w) (hc : hoistB l m done i = true) (ho : nthO l i = some ⟨some d, op, ty, pos, af, some (j, want)⟩) (hj : nthO l j = some oj) (hd : oj.dst = some s) (hb : gt L s = some (.bool b)) (hw : b = want) (hr : ∀ w, Inv w → RunsAt P L w op ty v) (hn : Nat.blt d n.n = true)
    (h : Nw Inv P n l Q fuel (lst m (i :: done)) ((d, v) :: L) w) : Nw Inv P n l Q (fuel + 1) (lst m done) L w := fun a fr => by
  simp only [hoistB, Bool.and_eq_true] at hc
  obtain ⟨⟨h1, h2⟩, h3⟩ := hc
  have ho' : l.toArray[i]? = some ⟨some d, op, ty, pos, af, some (j, want)⟩ := by rw [nthO_eq] at ho; simpa using ho
  have hj' : l.toArray[j]? = some oj := by rw [nthO_eq] at hj; simpa using hj
  have hy : yielded l.toArray a.tmps j = some b := by simp only [yielded, hj', Option.bind_some, hd, fr.get s _ hb]
  refine anyI_first (v := v) ho' (Region.noSelect_spec h1) (fun c a w k => hq c a _ _ w k) _ _ a w (Region.free_spec ho' h2) (by simpa using h3) hI
    (.inl ⟨by simp [Region.wanted, hy, hw], fun w' hw' => ?_⟩) (h _ (fr.put hn))
  have e : execOp a.eval ⟨some d, op, ty, pos, af, some (j, want)⟩ = execOp a.eval ⟨some d, op, ty, pos, af, none⟩ := rfl
  rw [e]
  exact hr w' hw' w' (Ext.refl _) _ fr.rho _ _ _ _
theorem NI_no (i : Nat) {j s : Nat} {want b : Bool} {oj : Oper} (hq : NoPanic Q) (hI : Inv w) (hc : hoistB l m done i = true) (ho : nthO l i = some ⟨some d, op, ty, pos, af, some (j, want)⟩) (hj : nthO l j = some oj) (hd : oj.dst = some s) (hb : gt L s = some (.bool b)) (hw : b = !want) (hn : Nat.blt d n.n = true)
    (h : Nw Inv P n l Q fuel (lst m (i :: done)) ((d, undef) :: L) w) : Nw Inv P n l Q (fuel + 1) (lst m done) L w := fun a fr => by
  simp only [hoistB, Bool.and_eq_true] at hc
  obtain ⟨⟨h1, h2⟩, h3⟩ := hc
  have ho' : l.toArray[i]? = some ⟨some d, op, ty, pos, af, some (j, want)⟩ := by rw [nthO_eq] at ho; simpa using ho
  have hj' : l.toArray[j]? = some oj := by rw [nthO_eq] at hj; simpa using hj
  have hy : yielded l.toArray a.tmps j = some b := by simp only [yielded, hj', Option.bind_some, hd, fr.get s _ hb]
  exact anyI_first (v := undef) ho' (Region.noSelect_spec h1) (fun c a w k => hq c a _ _ w k) _ _ a w (Region.free_spec ho' h2) (by simpa using h3) hI
    (.inr ⟨by simp [Region.wanted, hy, hw], rfl⟩) (h _ (fr.put hn))
theorem NI_no2 (i : Nat) {j s : Nat} {want : Bool} {oj : Oper} (hq : NoPanic Q) (hI : Inv w) (hc : hoistB l m done i = true) (ho : nthO l i = some ⟨some d, op, ty, pos, af, some (j, want)⟩) (hj : nthO l j = some oj) (hd : oj.dst = some s) (hb : gt L s = some undef) (hn : Nat.blt d n.n = true)
    (h : Nw Inv P n l Q fuel (lst m (i :: done)) ((d, undef) :: L) w) : Nw Inv P n l Q (fuel + 1) (lst m done) L w := fun a fr => by
  simp only [hoistB, Bool.and_eq_true] at hc
  obtain ⟨⟨h1, h2⟩, h3⟩ := hc
  have ho' : l.toArray[i]? = some ⟨some d, op, ty, pos, af, some (j, want)⟩ := by rw [nthO_eq] at ho; simpa using ho
  have hj' : l.toArray[j]? = some oj := by rw [nthO_eq] at hj; simpa using hj
  have hy : yielded l.toArray a.tmps j = none := by simp only [yielded, hj', Option.bind_some, hd, fr.get s _ hb, undef]
  exact anyI_first (v := undef) ho' (Region.noSelect_spec h1) (fun c a w k => hq c a _ _ w k) _ _ a w (Region.free_spec ho' h2) (by simpa using h3) hI
    (.inr ⟨by simp [Region.wanted, hy], rfl⟩) (h _ (fr.put hn))
/-- A variable as it lies in the heap. -/
theorem box_at {w : World} {b : Nat} {cs : List Value} {t : TypeId} (h : w.heap[b]? = some (.cells cs.toArray t (0, 0))) : PtrTo (hp w) ⟨b, 0, none⟩ cs :=
  ⟨rfl, fun j u hu => by
    show cellP (hp w) (Addr.add ⟨b, 0, none⟩ j) = some u
    simp only [Addr.add_lit, cellP, hp, h]
    simpa using hu⟩
theorem r_loadH1 {b off : Nat} {cs : List Value} {t t' : TypeId} {x : Operand} {u : Value} {dd : TypeDesc} (hx : ev L x = some (.pointer (some ⟨b, off, none⟩))) (ht : P.underlying t = some dd) (hd : plainT dd = true) (h : w.heap[b]? = some (.cells cs.toArray t' (0, 0))) (hu : nth cs off = some u) : RunsAt P L w (.load t x) ty u := by
  have h1 := (box_at h).add off
  obtain ⟨c, hc⟩ := nth_drop cs off u hu
  rw [hc] at h1
  simp only [Addr.add_lit, Nat.zero_add] at h1
  exact r_load1 hx ht hd h1 (Le.refl _)
theorem r_loadHN {b : Nat} {cs : List Value} {t t' : TypeId} {x : Operand} {dd : TypeDesc} {zz : Value} {bt : Nat} (hx : ev L x = some (.pointer (some ⟨b, 0, none⟩))) (ht : P.underlying t = some dd) (hd : aggT dd = true) (hz : Zr P t zz cs.length bt) (h : w.heap[b]? = some (.cells cs.toArray t' (0, 0))) : RunsAt P L w (.load t x) ty (.agg cs.toArray) :=
  r_loadN hx ht hd hz (box_at h) (Le.refl _)
theorem r_lookH {κ : Type} [DecidableEq κ] {enc : κ → Value} {l : List κ} {vs : List Value} {k : κ} {b m : Nat} {t kt et : TypeId} {x y : Operand} {z : Value} (hx : ev L x = some (.map (some b))) (hy : ev L y = some (enc k)) (ht : P.underlying t = some (.map kt et)) (hk : KeyOk P kt enc) (hz : Mz P et z)
    (h : w.heap[b]? = some (.map (mE enc 0 l vs).toArray m)) (hl : l.length = vs.length) : RunsAt P L w (.lookup t x y false) ty (lkV z k l vs) := fun w' hx' ρ hρ dst pos af g => by
  have hb := hx'.le b _ h
  have := lookup_run (k := k) hk ht hz hb hl
  simp [execOp, hρ x _ hx, hρ y _ hy, this]
end
end Go.E
namespace Go.E
open Go Go.RowKit
section
variable {P : Program} {L : Env} {w w0 : World} {O : List Res} {x y : Operand} {ty t t' e src dst u T : TypeId} {b : Nat} {cs : List Value}
theorem r_eqPnil {p : Option Addr} (hx : ev L x = some (.pointer p)) (ht : P.underlying t = some (.pointer e)) : RunsAt P L w (.binOp .eql t x (.const (.pointer none)) t') ty (.bool p.isNone) := fun w' _ ρ hρ dst pos af g => by
  have hy : ρ (.const (.pointer none)) = .pointer none := hρ _ _ rfl
  have he : (Op.equal t (.pointer p) (.pointer none)).run P w' = .ok p.isNone w' := by
    unfold Op.equal
    obtain ⟨d, hd⟩ : ∃ d, Op.maxDepth = d + 1 := ⟨9999, rfl⟩
    rw [hd]
    cases p <;> simp [Op.equalIn, run_underlying ht]
  simp [execOp, hρ x _ hx, hy, eqGuard, binOp, he]
theorem r_nePself {j : TypeInfo} {a : Addr} (hx : ev L x = some (.pointer (some a))) (hy : ev L y = some (.pointer (some a))) (ht : P.underlying t = some (.pointer e)) (hj : P.info? e = some j) : RunsAt P L w (.binOp .neq t x y t') ty (.bool false) := fun w' _ ρ hρ dst pos af g => by
  have := Lib.run_neq_ptr_same w' a ht hj
  simp [execOp, hρ x _ hx, hρ y _ hy, eqGuard, this]
theorem box_shape {i : Nat} (hL : Lcl w0 O w) (hi : nthR O i = some (.box b cs T)) : w.shape? b = some (T, cs.length) := by
  have : w.heap[b]? = some (.cells cs.toArray T (0, 0)) := hL.at hi
  simp [World.shape?, this]
theorem r_toU (i : Nat) {j : TypeInfo} (hx : ev L x = some (.pointer (some ⟨b, 0, none⟩))) (hs : P.underlying src = some (.pointer e)) (hd : P.underlying dst = some .unsafePointer) (hj : P.info? e = some j) (h0 : j.size ≠ 0) (hL : Lcl w0 O w) (hi : nthR O i = some (.box b cs T)) (hlen : Nat.blt 0 cs.length = true) :
    RunsAt P L w (.convert src dst x) ty (.pointer (some ⟨b, 0, none⟩)) := fun w' hx' ρ hρ dst' pos af g => by
  have := Lib.run_to_unsafe w' ⟨b, 0, none⟩ hs hd hj h0 (box_shape (hL.call hx') hi) (by simpa [Nat.blt_eq] using hlen)
  simp [execOp, hρ x _ hx, this]
theorem r_fromU (i : Nat) {j : TypeInfo} (hx : ev L x = some (.pointer (some ⟨b, 0, none⟩))) (hs : P.underlying src = some .unsafePointer) (hd : P.underlying dst = some (.pointer u)) (hj : P.info? u = some j) (hL : Lcl w0 O w) (hi : nthR O i = some (.box b cs T)) (hl : liesAt P P.depth T (cs.length / P.cellsOf T) 0 u 1 = true) :
    RunsAt P L w (.convert src dst x) ty (.pointer (some ⟨b, 0, none⟩)) := fun w' hx' ρ hρ dst' pos af g => by
  have := Lib.run_from_unsafe w' ⟨b, 0, none⟩ hs hd hj (box_shape (hL.call hx') hi) hl
  simp [execOp, hρ x _ hx, this]
theorem r_noesc {f : FuncId} {fn : Func} {at_ : Array TypeId} {v : Value} (hf : P.funcs[f]? = some fn) (h1 : (fn.name == "runtime.NumGoroutine") = false) (h2 : fn.body.isNone = true) (h3 : Extern.findNext fn = none) (h4 : Extern.find fn = some Extern.AbiNoEscape.same) (hx : ev L x = some v) :
    RunsAt P L w (.call ⟨.value (.func f), #[x], at_⟩) ty v := fun w' _ ρ hρ dst pos af g => by
  have e0 : ρ (.func f) = .func (.func f) #[] #[] := hρ _ _ rfl
  have hcall : (callFunc f #[v]).run P w' = .ok (.value v) w' := by
    rw [run_callFunc_extern hf h1 h2 h3 h4, Lib.run_noEscape]; rfl
  simp [execOp, resolve, e0, hρ x _ hx, Deferred.ofValue, invoke, hcall]
theorem r_usd {a : Addr} {m c : Nat} (hx : ev L x = some (.slice (some a) m c)) (hc : c ≠ 0) : RunsAt P L w (.call ⟨.builtin .unsafeSliceData, #[x], #[t]⟩) ty (.pointer (some a)) := fun w' _ ρ hρ dst pos af g => by
  have := Lib.run_unsafeSliceData_row (P := P) w' #[t] ty a m c hc
  simp [execOp, resolve, invoke, builtin, hρ x _ hx, this]
end
/-- What the builder's first field holds. -/
def BAd (b : Nat) (v : Value) : Prop := v = .pointer none ∨ v = .pointer (some ⟨b, 0, none⟩)
theorem BAd.one {b : Nat} {v : Value} (h : BAd b v) : v.oneCell' = true := by rcases h with rfl | rfl <;> rfl
section
variable {P : Program} {n : Sz} {ops : Array Oper} {Q : Exit → Act → World → Prop} {L : Env} {w w0 : World} {O : List Res} {rest : List Oper} {d : Nat} {ty pt it e : TypeId} {pos : String} {af : Array Edge} {x y : Operand} {H : PH}
/-- unsafe.String over a row of the call's own: the row is given up. -/
theorem S_uStr (i : Nat) {g cap : Nat} {l : List UInt8} {xs : List Value} (hx : ev L x = some (.pointer (some ⟨g, 0, none⟩))) (hy : ev L y = some (.int .i64 (l.length : Int))) (hpp : P.underlying pt = some (.pointer e)) (hc : P.cellsOf e = 1) (hn : Nat.blt d n.n = true)
    (hL : Lcl w0 O w) (hi : nthR O i = some (.row (.slice (some ⟨g, 0, none⟩) l.length cap) e 1 l.length xs)) (hel : Elems .byte (gz H w0 w O) l xs) (hne : l ≠ [])
    (h : ∀ w', Lcl w0 (delR O i) w' → Le (fz w O) (fz w' (delR O i)) → S P n ops Q rest ((d, .string ⟨l.toArray⟩) :: L) w') : S P n ops Q (⟨some d, .call ⟨.builtin .unsafeString, #[x, y], #[pt, it]⟩, ty, pos, af, none⟩ :: rest) L w := by
  have hown : w.ownsRow 0 e 1 (.slice (some ⟨g, 0, none⟩) l.length cap) l.length xs := hL.at hi
  obtain ⟨cur, hb, hnc, hcm, hcs, htake⟩ : ∃ cur : Array Value, w.heap[g]? = some (.cells cur e (0, 0)) ∧ l.length ≤ cap ∧ cap ≤ maxLen ∧ cur.size = cap * 1 ∧ cur.toList.take (l.length * 1) = xs := by
    rcases hown.2 with ⟨h1, _⟩ | ⟨g', cap', cur, h1, _, hb, hnc, hcm, hcs, htake⟩
    · cases h1
    · cases h1; exact ⟨cur, hb, hnc, hcm, hcs, htake⟩
  have hxs : xs = bc l := bc_of hel
  have hgl := lt_of_heap hb
  have hcell : ∀ j z, l[j]? = some z → w.cell? ((⟨g, 0, none⟩ : Addr).add j) = some (.int .u8 z.toNat) := fun j z hz => by
    have h2 : (bc l)[j]? = some (.int .u8 (z.toNat : Int)) := by unfold bc; rw [List.getElem?_map, hz]; rfl
    rw [← hxs, ← htake, List.getElem?_take] at h2
    split at h2
    · simp only [Addr.add_lit, Nat.zero_add, World.cell?, hb]
      simpa using h2
    · cases h2
  have hsh : w.shape? g = some (e, cur.size) := by simp [World.shape?, hb]
  have hrun := Lib.run_unsafeString_row (P := P) w pt it ty e hpp hc g cur.size hsh l hne (by omega) (by unfold maxLen at hcm; omega) hcell
  obtain ⟨lo, hi', hfr⟩ : ∃ lo hi', w.freeze ⟨g, 0, none⟩ l.length = { w with heap := w.heap.setIfInBounds g (.cells cur e (lo, hi')) } := by
    refine ⟨0, l.length, ?_⟩
    unfold World.freeze
    rw [if_neg (by simpa using hne)]
    congr 1
    apply Array.ext_getElem?
    intro k
    rw [Array.getElem?_modify, Array.getElem?_setIfInBounds]
    by_cases hk : g = k
    · subst hk; rw [if_pos rfl, if_pos rfl, if_pos hgl, hb]; simp
    · rw [if_neg hk, if_neg hk]
  rw [hfr] at hrun
  have hgr : w.grownBy { w with heap := w.heap.setIfInBounds g (.cells cur e (lo, hi')) } (some g) :=
    ⟨rfl, rfl, rfl, by simp, fun k _ hne => by
      show (w.heap.setIfInBounds g _)[k]? = _
      rw [Array.getElem?_setIfInBounds, if_neg (fun e => hne (by rw [e]))]⟩
  have hmem : Res.row (.slice (some ⟨g, 0, none⟩) l.length cap) e 1 l.length xs ∈ O := (perm_nth hi).mem_iff.2 (.head _)
  have hge : w0.heap.size ≤ g := hL.own _ hmem g rfl
  have hno : owned (delR O i) g = false := by
    cases hc : owned (delR O i) g with
    | false => rfl
    | true =>
      obtain ⟨r, hr, hb'⟩ := owned_iff.1 hc
      have hd := List.pairwise_cons.1 (hL.perm (perm_nth hi).symm).dis
      exact absurd hb' (hd.1 r hr g rfl)
  have hL' := (hL.dropAt hi).poke hgr (Nat.le_refl _) hge hno
  have hle : Le (fz w O) (fz { w with heap := w.heap.setIfInBounds g (.cells cur e (lo, hi')) } (delR O i)) := fun b o hbo => by
    have hbg : b ≠ g := fun e => by
      subst e
      unfold fz at hbo
      rw [if_pos (owned_iff.2 ⟨_, hmem, rfl⟩)] at hbo
      cases hbo
    have h1 := fz_dropAt (w := w) hi b o hbo
    unfold fz at h1 ⊢
    split at h1
    · cases h1
    · rename_i ho
      rw [if_neg ho]
      show (w.heap.setIfInBounds g _)[b]? = some o
      rw [Array.getElem?_setIfInBounds, if_neg (fun e => hbg e.symm)]
      exact h1
  refine S_value (v := .string ⟨l.toArray⟩) rfl rfl hn (fun ρ hρ => ?_) (h _ hL' hle)
  simp [execOp, resolve, invoke, builtin, hρ x _ hx, hρ y _ hy, hrun]
/-- A whole element of a row of one's own. -/
theorem r_loadRN {t : TypeId} {v : Value} (i : Nat) {sz m k : Nat} {xs c : List Value} {p : Addr} {dd : TypeDesc} {zz : Value} {bt : Nat} {e' : TypeId} (hx : ev L x = some (.pointer (some p))) (ht : P.underlying t = some dd) (hd : aggT dd = true) (hz : Zr P t zz c.length bt) (hL : Lcl w0 O w)
    (hi : nthR O i = some (.row v e' sz m xs)) (hp' : RowPtr v k p) (hu : ∀ j u, c[j]? = some u → xs[k + j]? = some u) : RunsAt P L w (.load t x) ty (.agg c.toArray) :=
  r_loadN hx ht hd hz ⟨hp'.2.2, fun j u h => row_cell hL hi (hp'.add j) (hu j u h)⟩ (Le.refl _)
end
end Go.E
