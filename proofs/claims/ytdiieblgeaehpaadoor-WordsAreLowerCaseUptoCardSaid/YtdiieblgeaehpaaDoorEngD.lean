/- Regions that draw their order: what only looks is taken first; what makes memory is in one order; the tail goes by the text. No program in sight. -/
import Derived.Test.YtdiieblgeaehpaaDoorEngC
import Derived.StillTail
namespace Go.E
open Go Go.RowKit

/-- How a region is walked: operations that only look (or whose value is the same in every later world), operations that make memory, the tail from k on. -/
inductive Tr where
  | tail (k : Nat)
  | q (i : Nat) (t : Tr)
  | h (i : Nat) (t : Tr)
  | h2 (i : Nat) (t : Tr) (j : Nat) (u : Tr)
  | h3 (i : Nat) (t : Tr) (j : Nat) (u : Tr) (l : Nat) (v : Tr)

def Tr.count : Tr → Nat
  | .tail _ => 0
  | .q _ t => t.count + 1
  | .h _ t => t.count + 1
  | .h2 _ t _ _ => t.count + 1
  | .h3 _ t _ _ _ _ => t.count + 1
def Tr.last : Tr → Nat
  | .tail k => k
  | .q _ t => t.last
  | .h _ t => t.last
  | .h2 _ t _ _ => t.last
  | .h3 _ t _ _ _ _ => t.last

def chainB (ops : Array Oper) : Nat → Nat → Array Bool → Bool
  | 0, _, listed => Region.ready .any ops listed == []
  | m + 1, k, listed => Region.ready .any ops listed == [k] && chainB ops m (k + 1) (listed.setIfInBounds k true)

def chk (ops : Array Oper) : Tr → Array Bool → Bool
  | .tail k, listed => chainB ops (ops.size - k) k listed
  | .q i t, listed => (Region.ready .any ops listed).contains i && Region.free .any ops listed i && Nat.blt i t.last && chk ops t (listed.setIfInBounds i true)
  | .h i t, listed => Region.ready .any ops listed == [i] && Nat.blt i t.last && chk ops t (listed.setIfInBounds i true)
  | .h2 i t j u, listed => Region.ready .any ops listed == [i, j] && Nat.blt i t.last && Nat.blt j t.last && t.count == u.count && t.last == u.last && chk ops t (listed.setIfInBounds i true) && chk ops u (listed.setIfInBounds j true)
  | .h3 i t j u l v, listed => Region.ready .any ops listed == [i, j, l] && Nat.blt i t.last && Nat.blt j t.last && Nat.blt l t.last && t.count == u.count && t.last == u.last && t.count == v.count && t.last == v.last && chk ops t (listed.setIfInBounds i true) && chk ops u (listed.setIfInBounds j true) && chk ops v (listed.setIfInBounds l true)

section
variable (P : Program) (ops : Array Oper)

def runx (a : Act) (o : Oper) (K : Act → World → Prop) : Result Next → Prop
  | .ok (.value v) w' => K (a.put o.dst v) w'
  | .ok .skip w' => K (a.put o.dst undef) w'
  | .ok (.enter f args) w' => Calls P f args w' (fun e w'' => ∃ v, e = .returned v ∧ K (a.put o.dst v) w'')
  | _ => False

def opx (o : Oper) (K : Act → World → Prop) (a : Act) (w : World) : Prop :=
  if Region.wanted o (yielded ops a.tmps) then runx P a o K ((execOp a.eval o).run P w) else K (a.put o.dst undef) w

/-- The same value in every later world. -/
def yx (o : Oper) (v : Value) (a : Act) (w : World) : Prop :=
  (Region.wanted o (yielded ops a.tmps) = true ∧ ∀ w', Ext w w' → match (execOp a.eval o).run P w' with
    | .ok (.value u) w'' => w'' = w' ∧ u = v
    | .ok (.enter f args) w'' => w'' = w' ∧ Calls P f args w' (fun e w3 => e = .returned v ∧ Ext w' w3)
    | _ => False) ∨
  (Region.wanted o (yielded ops a.tmps) = false ∧ v = undef)

/-- b: a world that all worlds from here on leave as it is; what only looks, looks at it. -/
def X (Q : Exit → Act → World → Prop) : Tr → World → Act → World → Prop
  | .tail k, _, a, w => ∀ w', Ext w w' → wpOps P ops Q (List.range' k (ops.size - k)) a w'
  | .q i t, b, a, w => ∃ o v, ops[i]? = some o ∧ yx P ops o v a b ∧ X Q t b (a.put o.dst v) w
  | .h i t, b, a, w => ∃ o, ops[i]? = some o ∧ ∀ w', Ext w w' → opx P ops o (fun a'' w'' => ∃ b', Ext b b' ∧ Ext b' w'' ∧ X Q t b' a'' w'') a w'
  | .h2 i t j u, b, a, w => (∃ o, ops[i]? = some o ∧ ∀ w', Ext w w' → opx P ops o (fun a'' w'' => ∃ b', Ext b b' ∧ Ext b' w'' ∧ X Q t b' a'' w'') a w') ∧
      (∃ o, ops[j]? = some o ∧ ∀ w', Ext w w' → opx P ops o (fun a'' w'' => ∃ b', Ext b b' ∧ Ext b' w'' ∧ X Q u b' a'' w'') a w')
  | .h3 i t j u l v, b, a, w => (∃ o, ops[i]? = some o ∧ ∀ w', Ext w w' → opx P ops o (fun a'' w'' => ∃ b', Ext b b' ∧ Ext b' w'' ∧ X Q t b' a'' w'') a w') ∧
      (∃ o, ops[j]? = some o ∧ ∀ w', Ext w w' → opx P ops o (fun a'' w'' => ∃ b', Ext b b' ∧ Ext b' w'' ∧ X Q u b' a'' w'') a w') ∧
      (∃ o, ops[l]? = some o ∧ ∀ w', Ext w w' → opx P ops o (fun a'' w'' => ∃ b', Ext b b' ∧ Ext b' w'' ∧ X Q v b' a'' w'') a w')

/-- Whatever order, the tail aside. -/
def Y (Q : Exit → Act → World → Prop) (k : Nat) (b : World) : Nat → Array Bool → Act → World → Prop
  | 0, listed, a, w => chainB ops (ops.size - k) k listed = true ∧ ∀ w', Ext w w' → wpOps P ops Q (List.range' k (ops.size - k)) a w'
  | m + 1, listed, a, w => Region.ready .any ops listed ≠ [] ∧ ∀ w', Ext w w' → ∀ i ∈ Region.ready .any ops listed, ∃ o, ops[i]? = some o ∧
      opx P ops o (fun a'' w'' => Ext b w'' ∧ Y Q k b m (listed.setIfInBounds i true) a'' w'') a w'
end

section
variable {P : Program} {ops : Array Oper} {Q : Exit → Act → World → Prop}

theorem runx_mono {a : Act} {o : Oper} {K K' : Act → World → Prop} (h : ∀ a w, K a w → K' a w) : ∀ {r : Result Next}, runx P a o K r → runx P a o K' r := by
  intro r hr
  cases r with
  | ok nx w' =>
    cases nx <;> simp only [runx] at hr ⊢
    case value v => exact h _ _ hr
    case skip => exact h _ _ hr
    case enter f args => exact hr.mono fun e w'' ⟨v, he, hv⟩ => ⟨v, he, h _ _ hv⟩
  | halt x w' => simp only [runx] at hr
theorem opx_mono {o : Oper} {K K' : Act → World → Prop} (h : ∀ a w, K a w → K' a w) {a : Act} {w : World} (hh : opx P ops o K a w) : opx P ops o K' a w := by
  unfold opx at hh ⊢
  split
  · rename_i hw; rw [if_pos hw] at hh; exact runx_mono h hh
  · rename_i hw; rw [if_neg hw] at hh; exact h _ _ hh

theorem wpOp_of_opx {i : Nat} {o : Oper} (hi : ops[i]? = some o) {K : Act → World → Prop} {a : Act} {w : World} (h : opx P ops o K a w) : wpOp P ops Q i K a w := by
  unfold wpOp
  simp only [hi]
  unfold opx at h
  split
  · rename_i hw
    rw [if_pos hw] at h
    refine .inl ?_
    unfold Oper.wp
    generalize (execOp a.eval o).run P w = r at h ⊢
    cases r with
    | ok nx w' =>
      cases nx <;> simp only [runx] at h <;> simp only [Oper.upon]
      case value v => exact h
      case skip => exact h
      case enter f args => exact h.mono fun e w'' ⟨v, he, hv⟩ => by subst he; exact hv
    | halt x w' => simp only [runx] at h
  · rename_i hw; rw [if_neg hw] at h; exact h

theorem yx_ext {o : Oper} {v : Value} {a : Act} {w w' : World} (h : yx P ops o v a w) (hx : Ext w w') : yx P ops o v a w' := by
  rcases h with ⟨hw, h⟩ | h
  · exact .inl ⟨hw, fun w'' hx' => h w'' (hx.trans hx')⟩
  · exact .inr h

theorem opx_of_yx {o : Oper} {v : Value} {a : Act} {w w' : World} (h : yx P ops o v a w) (hx : Ext w w') {K : Act → World → Prop} (hK : ∀ w'', Ext w' w'' → K (a.put o.dst v) w'') : opx P ops o K a w' := by
  unfold opx
  rcases h with ⟨hw, h⟩ | ⟨hw, rfl⟩
  · rw [if_pos hw]
    have h1 := h w' hx
    generalize (execOp a.eval o).run P w' = r at h1 ⊢
    cases r with
    | ok nx w1 =>
      cases nx <;> simp only at h1 <;> simp only [runx]
      case value u => obtain ⟨rfl, rfl⟩ := h1; exact hK _ (Ext.refl _)
      case enter f args => obtain ⟨rfl, h1⟩ := h1; exact h1.mono fun e w'' ⟨he, hv⟩ => ⟨v, he, hK _ hv⟩
    | halt x w1 => simp only at h1
  · rw [if_neg (by simp [hw])]; exact hK _ (Ext.refl _)

theorem yx_put {o oj : Oper} {v u : Value} {a : Act} {w : World} (hs : ∀ cs b, o.op ≠ .select cs b) (h3 : ∀ d, oj.dst = some d → d ∉ o.looksAt ops) (h : yx P ops o v a w) : yx P ops o v (a.put oj.dst u) w := by
  unfold yx at h ⊢
  rw [wanted_put o a oj.dst u h3, execOp_put (ops := ops) o hs a oj.dst u h3]
  exact h

/-- While something ahead of the tail is to come, nothing of the tail is ready. -/
def Waits (ops : Array Oper) (k : Nat) : Prop := ∀ listed, HeadInv .any ops k listed → ∀ i, i < k → listed.getD i true = false → ∀ t, k ≤ t → t ∉ Region.ready .any ops listed

theorem waits_of {k : Nat} (h : ops.size ≤ k ∨ (Region.sinkB .any ops k = true ∧ Region.chainB .any ops k = true)) : Waits ops k := by
  intro listed inv i hi hun t ht hr
  rcases Nat.lt_or_ge k ops.size with hk | hk
  · rcases h with h | ⟨h1, h2⟩
    · omega
    · exact tail_waits h1 h2 hk inv _ i rfl hi hun t ht hr
  · obtain ⟨_, o, ho, _⟩ := mem_ready.1 hr
    have := (Array.getElem?_eq_some_iff.1 ho).1
    omega

theorem ready_chain {m k : Nat} {listed : Array Bool} (h : chainB ops m k listed = true) : ∀ j ∈ Region.ready .any ops listed, j = k := by
  intro j hj
  cases m with
  | zero => simp only [chainB, beq_iff_eq] at h; rw [h] at hj; cases hj
  | succ m => simp only [chainB, Bool.and_eq_true, beq_iff_eq] at h; rw [h.1] at hj; simpa using hj

theorem Y_base {k : Nat} {b b' : World} (hb : Ext b b') : ∀ (m : Nat) (listed : Array Bool) (a : Act) (w : World), Y P ops Q k b' m listed a w → Y P ops Q k b m listed a w
  | 0, _, _, _, h => h
  | m + 1, listed, a, w, h => ⟨h.1, fun w' hx i hi => by
      obtain ⟨o, ho, h1⟩ := h.2 w' hx i hi
      exact ⟨o, ho, opx_mono (fun a'' w'' ⟨e1, e2⟩ => ⟨hb.trans e1, Y_base hb m _ _ _ e2⟩) h1⟩⟩
theorem Y_first {b : World} {k i : Nat} {oi : Oper} {v : Value} (hw : Waits ops k) (hi : ops[i]? = some oi) (hik : i < k) (hsel : ∀ (j : Nat) (o : Oper) cs b, ops[j]? = some o → o.op ≠ .select cs b) :
    ∀ (m : Nat) (listed : Array Bool) (a : Act) (w : World), HeadInv .any ops k listed →
      (∀ j oj, ops[j]? = some oj → j ≠ i → listed.getD j true = false → (∀ e ∈ oj.after, Region.binds .any e = true → e.on ≠ i) → oi.apart ops oj = true) →
      i ∈ Region.ready .any ops listed → Ext b w → yx P ops oi v a b →
      Y P ops Q k b m (listed.setIfInBounds i true) (a.put oi.dst v) w → Y P ops Q k b (m + 1) listed a w := by
  intro m
  induction m with
  | zero =>
    intro listed a w inv hfree hr hb hy H
    refine ⟨fun h => (by rw [h] at hr; cases hr), fun w' hx j hj => ?_⟩
    have hji : j = i := by
      refine Decidable.byContradiction fun hne => ?_
      have := ready_chain H.1 j (ready_mono hj hne)
      subst this
      exact hw listed inv i hik (mem_ready.1 hr).1 j (Nat.le_refl _) hj
    subst hji
    exact ⟨oi, hi, opx_of_yx hy (hb.trans hx) fun w'' hx' => ⟨(hb.trans hx).trans hx', H.1, fun w3 h3 => H.2 w3 ((hx.trans hx').trans h3)⟩⟩
  | succ m ih =>
    intro listed a w inv hfree hr hb hy H
    refine ⟨fun h => (by rw [h] at hr; cases hr), fun w' hx j hj => ?_⟩
    by_cases hji : j = i
    · subst hji
      refine ⟨oi, hi, opx_of_yx hy (hb.trans hx) fun w'' hx' => ⟨(hb.trans hx).trans hx', H.1, fun w3 h3 => H.2 w3 ((hx.trans hx').trans h3)⟩⟩
    · obtain ⟨oj, hoj, h1⟩ := H.2 w' hx j (ready_mono hj hji)
      refine ⟨oj, hoj, ?_⟩
      obtain ⟨hjun, oj', hoj', hall⟩ := mem_ready.1 hj
      obtain rfl : oj = oj' := Option.some.inj (hoj.symm.trans hoj')
      have hnot : ∀ e ∈ oj.after, Region.binds .any e = true → e.on ≠ i := fun e he hb heq => by
        have h1 := hall e he hb
        have h0 := (mem_ready.1 hr).1
        rw [heq] at h1
        rcases Nat.lt_or_ge i listed.size with h' | h'
        · simp [h'] at h0 h1; rw [h0] at h1; cases h1
        · simp [Array.getElem?_eq_none h'] at h1
      obtain ⟨p1, p2, p3⟩ := Oper.apart_spec (hfree j oj hoj hji hjun hnot)
      have hsj := fun cs b => hsel j oj cs b hoj
      have hsi := fun cs b => hsel i oi cs b hi
      have hjk : j < k := by
        rcases Nat.lt_or_ge j k with h | h
        · exact h
        · exact absurd hj (hw listed inv i hik (mem_ready.1 hr).1 j h)
      have hfree' : ∀ k' ok, ops[k']? = some ok → k' ≠ i → (listed.setIfInBounds j true).getD k' true = false →
          (∀ e ∈ ok.after, Region.binds .any e = true → e.on ≠ i) → oi.apart ops ok = true := fun k' ok hk hki hun hno => by
        refine hfree k' ok hk hki ?_ hno
        by_cases hjk : j = k'
        · subst hjk; exact hjun
        · rw [getD_set_ne true hjk] at hun; exact hun
      have next : ∀ u w'', Ext b w'' → Y P ops Q k b m ((listed.setIfInBounds i true).setIfInBounds j true) ((a.put oi.dst v).put oj.dst u) w'' → Y P ops Q k b (m + 1) (listed.setIfInBounds j true) (a.put oj.dst u) w'' := by
        intro u w'' hx' hY
        refine ih (listed.setIfInBounds j true) (a.put oj.dst u) w'' (inv.set hj hjk) hfree' (ready_mono hr (Ne.symm hji)) hx' (yx_put hsi p3 hy) ?_
        rw [Array.setIfInBounds_comm _ _ hji, ← Act.put_comm a v u p2]
        exact hY
      unfold opx at h1 ⊢
      rw [wanted_put oj a oi.dst v p1, execOp_put (ops := ops) oj hsj a oi.dst v p1] at h1
      split
      · rename_i hw
        rw [if_pos hw] at h1
        generalize (execOp a.eval oj).run P w' = r at h1 ⊢
        cases r with
        | ok nx w1 =>
          cases nx <;> simp only [runx] at h1 ⊢
          case value u => exact ⟨h1.1, next _ _ h1.1 h1.2⟩
          case skip => exact ⟨h1.1, next _ _ h1.1 h1.2⟩
          case enter f args => exact h1.mono fun e w'' ⟨u, he, hu⟩ => ⟨u, he, hu.1, next _ _ hu.1 hu.2⟩
        | halt x w1 => simp only [runx] at h1
      · rename_i hw
        rw [if_neg hw] at h1
        exact ⟨h1.1, next _ _ h1.1 h1.2⟩

theorem blt_lt {i j : Nat} (h : Nat.blt i j = true) : i < j := by simpa [Nat.blt_eq] using h

theorem Y_of_X {k : Nat} (hw : Waits ops k) (hsel : ∀ (j : Nat) (o : Oper) cs b, ops[j]? = some o → o.op ≠ .select cs b) :
    ∀ (t : Tr) (listed : Array Bool) (b : World) (a : Act) (w : World), t.last = k → HeadInv .any ops k listed → chk ops t listed = true → Ext b w → X P ops Q t b a w → Y P ops Q k b t.count listed a w
  | .tail k', listed, b, a, w, hk, inv, hc, hb, h => by
    obtain rfl : k' = k := hk
    exact ⟨hc, h⟩
  | .q i t, listed, b, a, w, hk, inv, hc, hb, h => by
    simp only [chk, Bool.and_eq_true] at hc
    obtain ⟨⟨⟨c1, c2⟩, c3⟩, c4⟩ := hc
    obtain ⟨o, v, ho, hy, hX⟩ := h
    have hr : i ∈ Region.ready .any ops listed := by simpa using c1
    have hlt : i < k := by rw [← hk]; exact blt_lt c3
    exact Y_first hw ho hlt hsel t.count listed a w inv (fun j oj => Region.free_spec ho c2 j oj) hr hb hy (Y_of_X hw hsel t _ _ _ _ hk (inv.set hr hlt) c4 hb hX)
  | .h i t, listed, b, a, w, hk, inv, hc, hb, h => by
    simp only [chk, Bool.and_eq_true, beq_iff_eq] at hc
    obtain ⟨⟨c1, c3⟩, c4⟩ := hc
    obtain ⟨o, ho, hX⟩ := h
    have hr : i ∈ Region.ready .any ops listed := by simp [c1]
    have hlt : i < k := by rw [← hk]; exact blt_lt c3
    refine ⟨by simp [c1], fun w' hx j hj => ?_⟩
    obtain rfl : j = i := by simpa [c1] using hj
    exact ⟨o, ho, opx_mono (fun a'' w'' ⟨b', e0, e1, e2⟩ => ⟨e0.trans e1, Y_base e0 _ _ _ _ (Y_of_X hw hsel t _ b' _ _ hk (inv.set hr hlt) c4 e1 e2)⟩) (hX w' hx)⟩
  | .h2 i t j u, listed, b, a, w, hk, inv, hc, hb, h => by
    simp only [chk, Bool.and_eq_true, beq_iff_eq] at hc
    obtain ⟨⟨⟨⟨⟨⟨c1, c3⟩, c3'⟩, c5⟩, c6⟩, c4⟩, c4'⟩ := hc
    obtain ⟨⟨o, ho, hX⟩, ⟨o', ho', hX'⟩⟩ := h
    have hr : i ∈ Region.ready .any ops listed := by simp [c1]
    have hr' : j ∈ Region.ready .any ops listed := by simp [c1]
    have hlt : i < k := by rw [← hk]; exact blt_lt c3
    have hlt' : j < k := by rw [← hk]; exact blt_lt c3'
    have hk' : u.last = k := by rw [← c6]; exact hk
    refine ⟨by simp [c1], fun w' hx l hl => ?_⟩
    have hl' : l = i ∨ l = j := by simpa [c1] using hl
    rcases hl' with rfl | rfl
    · exact ⟨o, ho, opx_mono (fun a'' w'' ⟨b', e0, e1, e2⟩ => ⟨e0.trans e1, Y_base e0 _ _ _ _ (Y_of_X hw hsel t _ b' _ _ hk (inv.set hr hlt) c4 e1 e2)⟩) (hX w' hx)⟩
    · refine ⟨o', ho', opx_mono (fun a'' w'' ⟨b', e0, e1, e2⟩ => ⟨e0.trans e1, ?_⟩) (hX' w' hx)⟩
      have := Y_base e0 _ _ _ _ (Y_of_X hw hsel u _ b' _ _ hk' (inv.set hr' hlt') c4' e1 e2)
      show Y P ops Q k b t.count _ _ _
      rw [c5]; exact this
  | .h3 i t j u m v, listed, b, a, w, hk, inv, hc, hb, h => by
    simp only [chk, Bool.and_eq_true, beq_iff_eq] at hc
    obtain ⟨⟨⟨⟨⟨⟨⟨⟨⟨⟨c1, c3⟩, c3'⟩, c3''⟩, c5⟩, c6⟩, c7⟩, c8⟩, c4⟩, c4'⟩, c4''⟩ := hc
    obtain ⟨⟨o, ho, hX⟩, ⟨o', ho', hX'⟩, ⟨o'', ho'', hX''⟩⟩ := h
    have hr : i ∈ Region.ready .any ops listed := by simp [c1]
    have hr' : j ∈ Region.ready .any ops listed := by simp [c1]
    have hr'' : m ∈ Region.ready .any ops listed := by simp [c1]
    have hlt : i < k := by rw [← hk]; exact blt_lt c3
    have hlt' : j < k := by rw [← hk]; exact blt_lt c3'
    have hlt'' : m < k := by rw [← hk]; exact blt_lt c3''
    have hk' : u.last = k := by rw [← c6]; exact hk
    have hk'' : v.last = k := by rw [← c8]; exact hk
    refine ⟨by simp [c1], fun w' hx l hl => ?_⟩
    have hl' : l = i ∨ l = j ∨ l = m := by simpa [c1] using hl
    rcases hl' with rfl | rfl | rfl
    · exact ⟨o, ho, opx_mono (fun a'' w'' ⟨b', e0, e1, e2⟩ => ⟨e0.trans e1, Y_base e0 _ _ _ _ (Y_of_X hw hsel t _ b' _ _ hk (inv.set hr hlt) c4 e1 e2)⟩) (hX w' hx)⟩
    · refine ⟨o', ho', opx_mono (fun a'' w'' ⟨b', e0, e1, e2⟩ => ⟨e0.trans e1, ?_⟩) (hX' w' hx)⟩
      have := Y_base e0 _ _ _ _ (Y_of_X hw hsel u _ b' _ _ hk' (inv.set hr' hlt') c4' e1 e2)
      show Y P ops Q k b t.count _ _ _
      rw [c5]; exact this
    · refine ⟨o'', ho'', opx_mono (fun a'' w'' ⟨b', e0, e1, e2⟩ => ⟨e0.trans e1, ?_⟩) (hX'' w' hx)⟩
      have := Y_base e0 _ _ _ _ (Y_of_X hw hsel v _ b' _ _ hk'' (inv.set hr'' hlt'') c4'' e1 e2)
      show Y P ops Q k b t.count _ _ _
      rw [c7]; exact this

theorem wpAny_of_chain : ∀ (m k : Nat) (listed : Array Bool) (a : Act) (w : World), chainB ops m k listed = true → wpOps P ops Q (List.range' k m) a w → wpAny P .any ops Q m listed a w
  | 0, k, listed, a, w, h, hw => by
    simp only [chainB, beq_iff_eq] at h
    exact ⟨h, by simpa [wpOps] using hw⟩
  | m + 1, k, listed, a, w, h, hw => by
    simp only [chainB, Bool.and_eq_true, beq_iff_eq] at h
    refine wpAny_all h.1 (by simp) fun i hi => ?_
    obtain rfl : i = k := by simpa using hi
    rw [List.range'_succ, wpOps_cons] at hw
    exact wpOp_mono (fun a' w' h' => wpAny_of_chain m (i + 1) _ a' w' h.2 h') hw

theorem wpAny_of_Y {k : Nat} {b : World} : ∀ (m : Nat) (listed : Array Bool) (a : Act) (w : World), Y P ops Q k b m listed a w → wpAny P .any ops Q (m + (ops.size - k)) listed a w
  | 0, listed, a, w, h => by rw [Nat.zero_add]; exact wpAny_of_chain _ k listed a w h.1 (h.2 w (Ext.refl w))
  | m + 1, listed, a, w, h => by
    rw [show m + 1 + (ops.size - k) = (m + (ops.size - k)) + 1 by omega]
    refine ⟨fun h0 => absurd h0 h.1, fun i hi => ?_⟩
    obtain ⟨o, ho, hx⟩ := h.2 w (Ext.refl w) i hi
    exact wpOp_of_opx ho (opx_mono (fun a' w' h' => wpAny_of_Y m _ a' w' h'.2) hx)

theorem headInv_start (k : Nat) : HeadInv .any ops k (Array.replicate ops.size false) :=
  ⟨by simp, (fun j oj _ hl => by rw [getD_replicate_false] at hl; cases hl), fun t _ ht => by simp [ht]⟩

def chkAll (l : List Oper) (t : Tr) : Bool :=
  Region.noSelect l.toArray && (Nat.ble l.length t.last || (Region.sinkB .any l.toArray t.last && Region.chainB .any l.toArray t.last)) && chk l.toArray t (Array.replicate l.length false) && Nat.beq (t.count + (l.length - t.last)) l.length

theorem drawn_world {w : World} : Ext w { w with drawn := w.drawn + 1 } := ⟨⟨rfl, rfl, rfl, Nat.le_refl _, fun _ _ => rfl⟩⟩

theorem wp_drawn {id : Nat} {l : List Oper} {a : Act} {w : World} (t : Tr) (hm : P.follows .mixedOrders = true) (hc : chkAll l t = true) (h : X P l.toArray Q t { w with drawn := w.drawn + 1 } a { w with drawn := w.drawn + 1 }) : (Code.region id l.toArray true).wp P Q a w := by
  simp only [chkAll, Bool.and_eq_true, Bool.or_eq_true] at hc
  obtain ⟨⟨⟨c1, c2⟩, c3⟩, c4⟩ := hc
  have hw : Waits l.toArray t.last := waits_of (by
    rcases c2 with c2 | c2
    · left; simpa [Nat.ble_eq] using c2
    · right; exact c2)
  have hlen := Nat.eq_of_beq_eq_true c4
  have hY := Y_of_X hw (Region.noSelect_spec c1) t (Array.replicate l.toArray.size false) _ a _ rfl (headInv_start _) (by simpa using c3) (Ext.refl _) h
  have := wpAny_of_Y _ _ _ _ hY
  refine wp_region_any hm ?_
  have e : t.count + (l.toArray.size - t.last) = l.toArray.size := by simpa using hlen
  rw [e] at this
  exact this
end

/-! ### The same on live slots -/
def nthO : List Oper → Nat → Option Oper
  | [], _ => none
  | o :: _, 0 => some o
  | _ :: l, i + 1 => nthO l i
theorem nthO_eq : ∀ (l : List Oper) (i : Nat), nthO l i = l[i]?
  | [], _ => rfl
  | _ :: _, 0 => rfl
  | _ :: l, i + 1 => by simpa [nthO] using nthO_eq l i
def dropO : Nat → List Oper → List Oper
  | 0, l => l
  | _ + 1, [] => []
  | k + 1, _ :: l => dropO k l
theorem dropO_eq : ∀ (k : Nat) (l : List Oper), dropO k l = l.drop k
  | 0, _ => by simp [dropO]
  | _ + 1, [] => by simp [dropO]
  | k + 1, _ :: l => by simpa [dropO] using dropO_eq k l

def D (P : Program) (n : Sz) (l : List Oper) (Q : Exit → Act → World → Prop) (t : Tr) (L : Env) (w : World) : Prop := ∀ a, Fr n a L → X P l.toArray Q t w a w
/-- The same, looking at an older world. -/
def DB (P : Program) (n : Sz) (l : List Oper) (Q : Exit → Act → World → Prop) (t : Tr) (L : Env) (b w : World) : Prop := ∀ a, Fr n a L → X P l.toArray Q t b a w

/-- An operation that yields this value in every later world. -/
def RunsAt (P : Program) (L : Env) (w : World) (op : Op) (ty : TypeId) (v : Value) : Prop :=
  ∀ w', Ext w w' → ∀ ρ, Rho L ρ → ∀ dst pos af g, (execOp ρ ⟨dst, op, ty, pos, af, g⟩).run P w' = .ok (.value v) w'

section
variable {P : Program} {n : Sz} {l : List Oper} {Q : Exit → Act → World → Prop} {L : Env} {w : World} {t u : Tr} {i j : Nat}
  {d : Nat} {op : Op} {ty : TypeId} {pos : String} {af : Array Edge} {y : Code}

theorem W_drawn {id : Nat} (t : Tr) (hm : P.follows .mixedOrders = true) (hc : chkAll l t = true) (h : D P n l Q t L { w with drawn := w.drawn + 1 }) : W P n (.region id l.toArray true) Q L w :=
  fun a fr => wp_drawn t hm hc (h a fr)
theorem W_seqd {id : Nat} (t : Tr) (hm : P.follows .mixedOrders = true) (hc : chkAll l t = true) (h : ∀ w', Ext w w' → D P n l (seqQ P y Q) t L w') : W P n (.seq (.region id l.toArray true) y) Q L w :=
  W_seq (W_drawn t hm hc (h _ drawn_world))
theorem W_regd {id : Nat} (t : Tr) (hm : P.follows .mixedOrders = true) (hc : chkAll l t = true) (h : ∀ w', Ext w w' → D P n l Q t L w') : W P n (.region id l.toArray true) Q L w :=
  W_drawn t hm hc (h _ drawn_world)

theorem D_v {v : Value} (hr : RunsAt P L w op ty v) (ho : nthO l i = some ⟨some d, op, ty, pos, af, none⟩) (hn : Nat.blt d n.n = true) (h : D P n l Q t ((d, v) :: L) w) : D P n l Q (.q i t) L w := fun a fr => by
  refine ⟨_, v, by rw [nthO_eq] at ho; simpa using ho, .inl ⟨by simp [Region.wanted], fun w' hx => ?_⟩, h _ (fr.put hn)⟩
  rw [hr w' hx _ fr.rho]
  exact ⟨rfl, rfl⟩
/-- Under a guard that says yes. -/
theorem D_vg {v : Value} {j : Nat} {want b : Bool} {s : Nat} {oj : Oper} (hr : RunsAt P L w op ty v) (ho : nthO l i = some ⟨some d, op, ty, pos, af, some (j, want)⟩) (hj : nthO l j = some oj) (hd : oj.dst = some s) (hb : gt L s = some (.bool b)) (hw : b = want) (hn : Nat.blt d n.n = true)
    (h : D P n l Q t ((d, v) :: L) w) : D P n l Q (.q i t) L w := fun a fr => by
  have hj' : l.toArray[j]? = some oj := by rw [nthO_eq] at hj; simpa using hj
  have hy : yielded l.toArray a.tmps j = some b := by simp only [yielded, hj', Option.bind_some, hd, fr.get s _ hb]
  refine ⟨_, v, by rw [nthO_eq] at ho; simpa using ho, .inl ⟨by simp [Region.wanted, hy, hw], fun w' hx => ?_⟩, h _ (fr.put hn)⟩
  rw [hr w' hx _ fr.rho]
  exact ⟨rfl, rfl⟩
/-- Under a guard that says no. -/
theorem D_no {j : Nat} {want b : Bool} {s : Nat} {oj : Oper} (ho : nthO l i = some ⟨some d, op, ty, pos, af, some (j, want)⟩) (hj : nthO l j = some oj) (hd : oj.dst = some s) (hb : gt L s = some (.bool b)) (hw : b = !want) (hn : Nat.blt d n.n = true)
    (h : D P n l Q t ((d, undef) :: L) w) : D P n l Q (.q i t) L w := fun a fr => by
  have hj' : l.toArray[j]? = some oj := by rw [nthO_eq] at hj; simpa using hj
  have hy : yielded l.toArray a.tmps j = some b := by simp only [yielded, hj', Option.bind_some, hd, fr.get s _ hb]
  exact ⟨_, undef, by rw [nthO_eq] at ho; simpa using ho, .inr ⟨by simp [Region.wanted, hy, hw], rfl⟩, h _ (fr.put hn)⟩
theorem D_no2 {j : Nat} {want : Bool} {s : Nat} {oj : Oper} (ho : nthO l i = some ⟨some d, op, ty, pos, af, some (j, want)⟩) (hj : nthO l j = some oj) (hd : oj.dst = some s) (hb : gt L s = some undef) (hn : Nat.blt d n.n = true)
    (h : D P n l Q t ((d, undef) :: L) w) : D P n l Q (.q i t) L w := fun a fr => by
  have hj' : l.toArray[j]? = some oj := by rw [nthO_eq] at hj; simpa using hj
  have hy : yielded l.toArray a.tmps j = none := by simp only [yielded, hj', Option.bind_some, hd, fr.get s _ hb, undef]
  exact ⟨_, undef, by rw [nthO_eq] at ho; simpa using ho, .inr ⟨by simp [Region.wanted, hy], rfl⟩, h _ (fr.put hn)⟩

theorem RunsAt_pu {v : Value} (h : pu L op = some v) : RunsAt P L w op ty v := fun _ _ ρ hρ dst pos af _ => pu_run (dst := dst) (pos := pos) (af := af) h ρ hρ

def puD (n : Sz) (l : List Oper) : Nat → Tr → Env → Option (Tr × Env)
  | 0, t, L => some (t, L)
  | k + 1, .q i t, L => match nthO l i with
    | some ⟨some d, op, _, _, _, none⟩ => match pu L op with
      | some v => bif Nat.blt d n.n then puD n l k t ((d, v) :: L) else none
      | none => none
    | _ => none
  | _ + 1, _, _ => none

/-- Some operations at once that only compute. -/
theorem D_pu : ∀ (k : Nat) {t t' : Tr} {L L' : Env}, puD n l k t L = some (t', L') → D P n l Q t' L' w → D P n l Q t L w
  | 0, t, t', L, L', h, hD => by simp only [puD, Option.some.injEq, Prod.mk.injEq] at h; obtain ⟨rfl, rfl⟩ := h; exact hD
  | k + 1, .tail _, t', L, L', h, hD => by simp only [puD, reduceCtorEq] at h
  | k + 1, .h _ _, t', L, L', h, hD => by simp only [puD, reduceCtorEq] at h
  | k + 1, .h2 _ _ _ _, t', L, L', h, hD => by simp only [puD, reduceCtorEq] at h
  | k + 1, .h3 _ _ _ _ _ _, t', L, L', h, hD => by simp only [puD, reduceCtorEq] at h
  | k + 1, .q i t, t', L, L', h, hD => by
    simp only [puD] at h
    split at h
    · rename_i d op ty pos af ho
      split at h
      · rename_i v hv
        cases hd : Nat.blt d n.n with
        | false => rw [hd] at h; cases h
        | true => rw [hd] at h; exact D_v (RunsAt_pu hv) ho hd (D_pu k h hD)
      · cases h
    · cases h

/-- A call whose value is the same in every later world. -/
theorem D_call {f : FuncId} {args : List Operand} {vs : List Value} {at_ : Array TypeId} {v : Value} (ho : nthO l i = some ⟨some d, .call ⟨.value (.func f), args.toArray, at_⟩, ty, pos, af, none⟩) (ha : evl L args = some vs) (hn : Nat.blt d n.n = true)
    (hok : ∀ w', Ext w w' → Ok P f vs w' (fun u w'' => Ext w' w'' ∧ u = v)) (h : D P n l Q t ((d, v) :: L) w) : D P n l Q (.q i t) L w := fun a fr => by
  refine ⟨_, v, by rw [nthO_eq] at ho; simpa using ho, .inl ⟨by simp [Region.wanted], fun w' hx => ?_⟩, h _ (fr.put hn)⟩
  rw [run_call (hok w' hx).1 ha _ fr.rho]
  exact ⟨rfl, (hok w' hx).2.mono fun e w'' ⟨u, he, hx', hu⟩ => ⟨by rw [he, hu], hx'⟩⟩
theorem D_callg {f : FuncId} {args : List Operand} {vs : List Value} {at_ : Array TypeId} {v : Value} {j : Nat} {want b : Bool} {s : Nat} {oj : Oper} (ho : nthO l i = some ⟨some d, .call ⟨.value (.func f), args.toArray, at_⟩, ty, pos, af, some (j, want)⟩)
    (hj : nthO l j = some oj) (hd : oj.dst = some s) (hb : gt L s = some (.bool b)) (hw : b = want) (ha : evl L args = some vs) (hn : Nat.blt d n.n = true)
    (hok : ∀ w', Ext w w' → Ok P f vs w' (fun u w'' => Ext w' w'' ∧ u = v)) (h : D P n l Q t ((d, v) :: L) w) : D P n l Q (.q i t) L w := fun a fr => by
  have hj' : l.toArray[j]? = some oj := by rw [nthO_eq] at hj; simpa using hj
  have hy : yielded l.toArray a.tmps j = some b := by simp only [yielded, hj', Option.bind_some, hd, fr.get s _ hb]
  refine ⟨_, v, by rw [nthO_eq] at ho; simpa using ho, .inl ⟨by simp [Region.wanted, hy, hw], fun w' hx => ?_⟩, h _ (fr.put hn)⟩
  have hrun := run_call (P := P) (w := w') (ty := ty) (pos := pos) (af := af) (at_ := at_) (dst := some d) (hok w' hx).1 ha _ fr.rho
  have e : execOp a.eval ⟨some d, .call ⟨.value (.func f), args.toArray, at_⟩, ty, pos, af, some (j, want)⟩ = execOp a.eval ⟨some d, .call ⟨.value (.func f), args.toArray, at_⟩, ty, pos, af, none⟩ := rfl
  rw [e, hrun]
  exact ⟨rfl, (hok w' hx).2.mono fun e w'' ⟨u, he, hx', hu⟩ => ⟨by rw [he, hu], hx'⟩⟩

/-- A call that makes memory, in its place. -/
theorem D_hcall {f : FuncId} {args : List Operand} {vs : List Value} {at_ : Array TypeId} {R : World → Value → World → Prop} (ho : nthO l i = some ⟨some d, .call ⟨.value (.func f), args.toArray, at_⟩, ty, pos, af, none⟩) (ha : evl L args = some vs) (hn : Nat.blt d n.n = true)
    (hok : ∀ w', Ext w w' → Ok P f vs w' (fun u w'' => Ext w' w'' ∧ R w' u w'')) (h : ∀ w' v w'', Ext w w' → Ext w' w'' → R w' v w'' → D P n l Q t ((d, v) :: L) w'') : D P n l Q (.h i t) L w := fun a fr => by
  refine ⟨_, by rw [nthO_eq] at ho; simpa using ho, fun w' hx => ?_⟩
  unfold opx
  rw [if_pos (by simp [Region.wanted]), run_call (hok w' hx).1 ha _ fr.rho]
  exact (hok w' hx).2.mono fun e w'' ⟨v, he, h1, h2⟩ => ⟨v, he, w'', hx.trans h1, Ext.refl _, h w' v w'' hx h1 h2 _ (fr.put hn)⟩
/-- An operation that makes memory, in its place. -/
theorem D_hop {R : World → Value → World → Prop} (ho : nthO l i = some ⟨some d, op, ty, pos, af, none⟩) (hn : Nat.blt d n.n = true)
    (hok : ∀ w', Ext w w' → ∀ ρ, Rho L ρ → ∃ v w'', (execOp ρ ⟨some d, op, ty, pos, af, none⟩).run P w' = .ok (.value v) w'' ∧ Ext w' w'' ∧ R w' v w'') (h : ∀ w' v w'', Ext w w' → Ext w' w'' → R w' v w'' → D P n l Q t ((d, v) :: L) w'') : D P n l Q (.h i t) L w := fun a fr => by
  refine ⟨_, by rw [nthO_eq] at ho; simpa using ho, fun w' hx => ?_⟩
  obtain ⟨v, w'', hrun, h1, h2⟩ := hok w' hx _ fr.rho
  unfold opx
  rw [if_pos (by simp [Region.wanted]), hrun]
  exact ⟨w'', hx.trans h1, Ext.refl _, h w' v w'' hx h1 h2 _ (fr.put hn)⟩
/-- Under a guard that says yes. -/
theorem D_hopg {R : World → Value → World → Prop} {j : Nat} {want b : Bool} {s : Nat} {oj : Oper} (ho : nthO l i = some ⟨some d, op, ty, pos, af, some (j, want)⟩) (hj : nthO l j = some oj) (hd : oj.dst = some s) (hb : gt L s = some (.bool b)) (hw : b = want) (hn : Nat.blt d n.n = true)
    (hok : ∀ w', Ext w w' → ∀ ρ, Rho L ρ → ∃ v w'', (execOp ρ ⟨some d, op, ty, pos, af, none⟩).run P w' = .ok (.value v) w'' ∧ Ext w' w'' ∧ R w' v w'') (h : ∀ w' v w'', Ext w w' → Ext w' w'' → R w' v w'' → D P n l Q t ((d, v) :: L) w'') : D P n l Q (.h i t) L w := fun a fr => by
  have hj' : l.toArray[j]? = some oj := by rw [nthO_eq] at hj; simpa using hj
  have hy : yielded l.toArray a.tmps j = some b := by simp only [yielded, hj', Option.bind_some, hd, fr.get s _ hb]
  refine ⟨_, by rw [nthO_eq] at ho; simpa using ho, fun w' hx => ?_⟩
  obtain ⟨v, w'', hrun, h1, h2⟩ := hok w' hx _ fr.rho
  have e : execOp a.eval ⟨some d, op, ty, pos, af, some (j, want)⟩ = execOp a.eval ⟨some d, op, ty, pos, af, none⟩ := rfl
  unfold opx
  rw [if_pos (by simp [Region.wanted, hy, hw]), e, hrun]
  exact ⟨w'', hx.trans h1, Ext.refl _, h w' v w'' hx h1 h2 _ (fr.put hn)⟩
theorem D_h2 (h1 : D P n l Q (.h i t) L w) (h2 : D P n l Q (.h j u) L w) : D P n l Q (.h2 i t j u) L w := fun a fr => ⟨h1 a fr, h2 a fr⟩
theorem D_h3 {m : Nat} {v : Tr} (h1 : D P n l Q (.h i t) L w) (h2 : D P n l Q (.h j u) L w) (h3 : D P n l Q (.h m v) L w) : D P n l Q (.h3 i t j u m v) L w := fun a fr => ⟨h1 a fr, h2 a fr, h3 a fr⟩

theorem D_tail {k : Nat} (h : ∀ w', Ext w w' → S P n l.toArray Q (dropO k l) L w') : D P n l Q (.tail k) L w := fun a fr => fun w' hx => by
  have := h w' hx a fr
  rw [dropO_eq] at this
  have e := wpOps_eq_wpList (P := P) (ops := l.toArray) (Q := Q) (l.drop k) k (fun j => by simp)
  rw [List.length_drop] at e
  show wpOps P l.toArray Q (List.range' k (l.toArray.size - k)) a w'
  rw [List.size_toArray, e]
  exact this

theorem D_b (h : DB P n l Q t L w w) : D P n l Q t L w := h
theorem DB_v {b : World} {v : Value} (hr : RunsAt P L b op ty v) (ho : nthO l i = some ⟨some d, op, ty, pos, af, none⟩) (hn : Nat.blt d n.n = true) (h : DB P n l Q t ((d, v) :: L) b w) : DB P n l Q (.q i t) L b w := fun a fr => by
  refine ⟨_, v, by rw [nthO_eq] at ho; simpa using ho, .inl ⟨by simp [Region.wanted], fun w' hx => ?_⟩, h _ (fr.put hn)⟩
  rw [hr w' hx _ fr.rho]
  exact ⟨rfl, rfl⟩
theorem DB_hcall {b : World} {f : FuncId} {args : List Operand} {vs : List Value} {at_ : Array TypeId} {R : World → Value → World → Prop} (ho : nthO l i = some ⟨some d, .call ⟨.value (.func f), args.toArray, at_⟩, ty, pos, af, none⟩) (ha : evl L args = some vs) (hn : Nat.blt d n.n = true)
    (hok : ∀ w', Ext w w' → Ok P f vs w' (fun u w'' => Ext w' w'' ∧ R w' u w'')) (hb : Ext b w) (h : ∀ w' v w'', Ext w w' → Ext w' w'' → R w' v w'' → DB P n l Q t ((d, v) :: L) b w'') : DB P n l Q (.h i t) L b w := fun a fr => by
  refine ⟨_, by rw [nthO_eq] at ho; simpa using ho, fun w' hx => ?_⟩
  unfold opx
  rw [if_pos (by simp [Region.wanted]), run_call (hok w' hx).1 ha _ fr.rho]
  exact (hok w' hx).2.mono fun e w'' ⟨v, he, h1, h2⟩ => ⟨v, he, b, Ext.refl _, (hb.trans hx).trans h1, h w' v w'' hx h1 h2 _ (fr.put hn)⟩
theorem DB_hop {b : World} {R : World → Value → World → Prop} (ho : nthO l i = some ⟨some d, op, ty, pos, af, none⟩) (hn : Nat.blt d n.n = true)
    (hok : ∀ w', Ext w w' → ∀ ρ, Rho L ρ → ∃ v w'', (execOp ρ ⟨some d, op, ty, pos, af, none⟩).run P w' = .ok (.value v) w'' ∧ Ext b w'' ∧ R w' v w'') (h : ∀ w' v w'', Ext w w' → Ext b w'' → R w' v w'' → DB P n l Q t ((d, v) :: L) b w'') : DB P n l Q (.h i t) L b w := fun a fr => by
  refine ⟨_, by rw [nthO_eq] at ho; simpa using ho, fun w' hx => ?_⟩
  obtain ⟨v, w'', hrun, h1, h2⟩ := hok w' hx _ fr.rho
  unfold opx
  rw [if_pos (by simp [Region.wanted]), hrun]
  exact ⟨b, Ext.refl _, h1, h w' v w'' hx h1 h2 _ (fr.put hn)⟩
theorem DB_h2 {b : World} (h1 : DB P n l Q (.h i t) L b w) (h2 : DB P n l Q (.h j u) L b w) : DB P n l Q (.h2 i t j u) L b w := fun a fr => ⟨h1 a fr, h2 a fr⟩
theorem DB_h3 {m : Nat} {v : Tr} {b : World} (h1 : DB P n l Q (.h i t) L b w) (h2 : DB P n l Q (.h j u) L b w) (h3 : DB P n l Q (.h m v) L b w) : DB P n l Q (.h3 i t j u m v) L b w := fun a fr => ⟨h1 a fr, h2 a fr, h3 a fr⟩
theorem DB_tail {b : World} {k : Nat} (h : ∀ w', Ext w w' → S P n l.toArray Q (dropO k l) L w') : DB P n l Q (.tail k) L b w := fun a fr => fun w' hx => by
  have := h w' hx a fr
  rw [dropO_eq] at this
  have e := wpOps_eq_wpList (P := P) (ops := l.toArray) (Q := Q) (l.drop k) k (fun j => by simp)
  rw [List.length_drop] at e
  show wpOps P l.toArray Q (List.range' k (l.toArray.size - k)) a w'
  rw [List.size_toArray, e]
  exact this

/-- A bool parts the ways. -/
theorem D_split {s : Nat} {b : Bool} (_hb : gt L s = some (.bool b)) (h1 : b = true → D P n l Q t L w) (h2 : b = false → D P n l Q t L w) : D P n l Q t L w := by
  cases b
  · exact h2 rfl
  · exact h1 rfl
theorem S_split {ops : Array Oper} {rest : List Oper} {s : Nat} {b : Bool} (_hb : gt L s = some (.bool b)) (h1 : b = true → S P n ops Q rest L w) (h2 : b = false → S P n ops Q rest L w) : S P n ops Q rest L w := by
  cases b
  · exact h2 rfl
  · exact h1 rfl
theorem W_split {c : Code} {s : Nat} {b : Bool} (_hb : gt L s = some (.bool b)) (h1 : b = true → W P n c Q L w) (h2 : b = false → W P n c Q L w) : W P n c Q L w := by
  cases b
  · exact h2 rfl
  · exact h1 rfl
theorem r_pickT {c x y : Operand} {b : Bool} {v : Value} (hc : ev L c = some (.bool b)) (hb : b = true) (hx : ev L x = some v) : RunsAt P L w (.pick c x y) ty v := fun w' _ ρ hρ dst pos af g => by
  subst hb; simp [execOp, hρ c _ hc, hρ x _ hx, asBool]
theorem r_pickF {c x y : Operand} {b : Bool} {v : Value} (hc : ev L c = some (.bool b)) (hb : b = false) (hx : ev L y = some v) : RunsAt P L w (.pick c x y) ty v := fun w' _ ρ hρ dst pos af g => by
  subst hb; simp [execOp, hρ c _ hc, hρ y _ hx, asBool]

theorem S_v {ops : Array Oper} {rest : List Oper} {v : Value} (hr : RunsAt P L w op ty v) (hn : Nat.blt d n.n = true) (h : S P n ops Q rest ((d, v) :: L) w) : S P n ops Q (⟨some d, op, ty, pos, af, none⟩ :: rest) L w :=
  S_value rfl rfl hn (fun ρ hρ => hr w (Ext.refl w) ρ hρ _ _ _ _) h
end
end Go.E
