/- The count of draws never falls. No program in sight. -/
import Derived.WalkKit
import Derived.Test.YtdiieblgeaehpaaDoorEngB
namespace Go.E
open Go
theorem drawn_setCell (w : World) (a : Addr) (v : Value) : (w.setCell a v).drawn = w.drawn := by
  unfold World.setCell
  split <;> rfl
theorem drawn_freeze (w : World) (a : Addr) (n : Nat) : (w.freeze a n).drawn = w.drawn := by
  unfold World.freeze
  split <;> rfl
theorem drawn_viewStore {p : Program} {w w1 : World} {at_ : Addr} {u : TypeId} {k : Addr} {v : Value} {atomic : Bool} {l : List Addr} (h : w.viewStore p at_ u k v atomic = .ok (w1, l)) : w1.drawn = w.drawn := by
  unfold World.viewStore at h
  simp only [bind, Except.bind, pure, Except.pure, throwThe, MonadExceptOf.throw, MonadExcept.throw] at h
  repeat' split at h
  all_goals first
    | (cases h; done)
    | (cases h; rfl)
theorem drawn_farStore {p : Program} {w w1 : World} {a : Addr} {v : Value} {atomic : Bool} {l : List Addr} (h : w.farStore p a v atomic = .ok (w1, l)) : w1.drawn = w.drawn := by
  unfold World.farStore at h
  split at h
  · split at h
    · rename_i r hr; cases h; exact drawn_viewStore hr
    · cases h
  · cases h
theorem drawn_ask {α : Type} : ∀ (q : Ask α) (w : World), w.drawn ≤ (w.ask q).2.drawn
  | .done a, w => Nat.le_refl _
  | .ask what range k, w => by
    unfold World.ask
    simp only
    split
    · exact drawn_ask (k 0) w
    · exact Nat.le_trans (Nat.le_succ _) (drawn_ask _ { w with drawn := w.drawn + 1 })
theorem drawn_sys (w : World) (c : Sys) : w.drawn ≤ (w.sys c).2.drawn := by
  unfold World.sys
  have := drawn_ask (Kernel.perform c w.os) w
  split
  · exact Nat.le_refl _
  · rename_i r os w1 _ e
    rw [e] at this
    exact this
theorem run_drawn {α : Type} {p : Program} : ∀ (s : Sem α) (w : World) (a : α) (w' : World), s.run p w = .ok a w' → w.drawn ≤ w'.drawn := by
  intro s
  induction s with
  | pure a => intro w x w' h; cases h; exact Nat.le_refl _
  | load m a k ih =>
    intro w x w' h
    unfold Sem.run at h
    split at h
    · exact ih _ _ _ _ h
    · split at h
      · exact ih _ _ _ _ h
      · cases h
  | store m a v k ih =>
    intro w x w' h
    cases v <;> simp only [Sem.run] at h
    all_goals first
      | (cases h; done)
      | (split at h
         · split at h
           · cases h
           · have := ih _ _ _ h; rwa [drawn_setCell] at this
         · split at h
           · rename_i hf
             have h1 := ih _ _ _ h
             rw [drawn_farStore hf] at h1
             exact h1
           · cases h)
  | new o k ih => intro w x w' h; exact ih _ { w with heap := w.heap.push o } _ _ h
  | shape r k ih => intro w x w' h; exact ih _ _ _ _ h
  | freeze a n k ih => intro w x w' h; have := ih _ _ _ h; rwa [drawn_freeze] at this
  | frozen a k ih => intro w x w' h; exact ih _ _ _ _ h
  | getObj r k ih =>
    intro w x w' h
    unfold Sem.run at h
    split at h
    · cases h
    · exact ih _ _ _ _ h
    · cases h
  | setObj r o k ih =>
    intro w x w' h
    unfold Sem.run at h
    split at h
    · cases h
    · exact ih { w with heap := w.heap.setIfInBounds r o } _ _ h
    · cases h
  | choose q k ih =>
    intro w x w' h
    unfold Sem.run at h
    split at h
    · exact ih _ _ _ _ h
    · have := ih _ _ _ _ h
      simp only at this
      omega
  | sys c k ih =>
    intro w x w' h
    refine Nat.le_trans ?_ (ih _ _ _ _ h)
    exact drawn_sys w c
  | program k ih => intro w x w' h; exact ih _ _ _ _ h
  | mark m k ih => intro w x w' h; exact ih _ _ _ h
  | halt h => intro w x w' h; cases h
end Go.E

namespace Go.E
open Go Go.RowKit

/-- What was there is as it was. -/
structure Ext (w w' : World) : Prop extends Below w.heap.size w w'
theorem Ext.refl (w : World) : Ext w w := ⟨Below.refl _ _⟩
theorem Ext.trans {a b c : World} (h : Ext a b) (k : Ext b c) : Ext a c := ⟨Below.trans h.toBelow (Below.mono k.toBelow h.size)⟩

/-- A part of a heap that is only read. -/
abbrev PH := Nat → Option Obj
def Le (A B : PH) : Prop := ∀ b o, A b = some o → B b = some o
theorem Le.refl (A : PH) : Le A A := fun _ _ h => h
theorem Le.trans {A B C : PH} (h : Le A B) (k : Le B C) : Le A C := fun b o e => k b o (h b o e)
def hp (w : World) : PH := fun b => w.heap[b]?
def nw (w w' : World) : PH := fun b => if w.heap.size ≤ b then w'.heap[b]? else none

theorem lt_of_heap {w : World} {b : Nat} {o : Obj} (h : w.heap[b]? = some o) : b < w.heap.size := (Array.getElem?_eq_some_iff.1 h).1
theorem Ext.le {w w' : World} (h : Ext w w') : Le (hp w) (hp w') := fun b o e => by
  have : b < w.heap.size := lt_of_heap e
  show w'.heap[b]? = some o
  rw [h.block b this]; exact e
theorem nw_le (w w' : World) : Le (nw w w') (hp w') := fun b o e => by
  unfold nw at e
  split at e
  · exact e
  · cases e
theorem Le.ext {A : PH} {w w' : World} (h : Le A (hp w)) (hx : Ext w w') : Le A (hp w') := h.trans hx.le
theorem nw_trans {a b c : World} (_h1 : Ext a b) (h2 : Ext b c) : Le (nw a b) (nw a c) := fun k o e => by
  unfold nw at e ⊢
  split at e
  · rename_i hk; rw [if_pos hk]; exact h2.le k o e
  · cases e
theorem nw_trans' {a b c : World} (h1 : Ext a b) : Le (nw b c) (nw a c) := fun k o e => by
  unfold nw at e ⊢
  split at e
  · rename_i hk; rw [if_pos (Nat.le_trans h1.size hk)]; exact e
  · cases e

def cellP (H : PH) (a : Addr) : Option Value :=
  match H a.block with
  | some (.cells c _ _) => if a.spot.isSome then none else c[a.off]?
  | _ => none
theorem cellP_hp (w : World) (a : Addr) : cellP (hp w) a = w.cell? a := rfl
theorem cellP_mono {A B : PH} (h : Le A B) {a : Addr} {v : Value} (e : cellP A a = some v) : cellP B a = some v := by
  unfold cellP at e ⊢
  split at e
  · rename_i c t f hc; rw [h _ _ hc]; exact e
  · cases e
theorem cell_of {H : PH} {w : World} (h : Le H (hp w)) {a : Addr} {v : Value} (e : cellP H a = some v) : w.cell? a = some v := cellP_mono h e

/-- How a kind of data lies in cells. -/
structure Rp (α : Type) where
  sz : Nat
  rel : PH → α → List Value → Prop
  len : ∀ {H x c}, rel H x c → c.length = sz
  mono : ∀ {H H' x c}, Le H H' → rel H x c → rel H' x c
  one : ∀ {H x c}, rel H x c → ∀ u ∈ c, u.oneCell' = true

def PtrTo (H : PH) (p : Addr) (c : List Value) : Prop := p.spot = none ∧ ∀ j u, c[j]? = some u → cellP H (p.add j) = some u

/-- A slice that reads as a list. -/
structure Vec {α : Type} (r : Rp α) (H : PH) (v : Value) (l : List α) : Prop where
  ex : ∃ a cap, v = .slice a l.length cap ∧ l.length ≤ cap ∧ cap ≤ maxLen ∧ (a = none → cap = 0) ∧
    ∀ A, a = some A → l ≠ [] → A.spot = none ∧ ∀ i x, l[i]? = some x → ∃ c, r.rel H x c ∧ ∀ j u, c[j]? = some u → cellP H (A.add (i * r.sz + j)) = some u

theorem Vec.mono {α : Type} {r : Rp α} {H H' : PH} {v : Value} {l : List α} (h : Vec r H v l) (hs : Le H H') : Vec r H' v l := by
  obtain ⟨a, cap, h1, h2, h3, h4, h5⟩ := h.ex
  refine ⟨a, cap, h1, h2, h3, h4, fun A hA hl => ?_⟩
  obtain ⟨h6, h7⟩ := h5 A hA hl
  refine ⟨h6, fun i x hx => ?_⟩
  obtain ⟨c, hc, hcell⟩ := h7 i x hx
  exact ⟨c, r.mono hs hc, fun j u hu => cellP_mono hs (hcell j u hu)⟩

theorem Vec.len_le {α : Type} {r : Rp α} {H : PH} {v : Value} {l : List α} (h : Vec r H v l) : l.length ≤ 9223372036854775807 := by
  obtain ⟨a, cap, h1, h2, h3, h4, h5⟩ := h.ex
  unfold maxLen at h3; omega
theorem Vec.nil {α : Type} (r : Rp α) (H : PH) : Vec r H (.slice none 0 0) ([] : List α) :=
  ⟨none, 0, rfl, Nat.le_refl _, Nat.zero_le _, fun _ => rfl, fun _ h => by cases h⟩
theorem Vec.header {α : Type} {r : Rp α} {H : PH} {v : Value} {l : List α} (h : Vec r H v l) : ∃ a cap, v = .slice a l.length cap := by
  obtain ⟨a, cap, h1, _⟩ := h.ex; exact ⟨a, cap, h1⟩

/-- A number in one cell. -/
def Rp.int (k : IntKind) : Rp Int := ⟨1, fun _ x c => c = [.int k x], fun h => by simp [h], fun _ h => h, fun h u hu => by subst h; simp at hu; subst hu; rfl⟩
def Rp.byte : Rp UInt8 := ⟨1, fun _ x c => c = [.int .u8 (x.toNat : Int)], fun h => by simp [h], fun _ h => h, fun h u hu => by subst h; simp at hu; subst hu; rfl⟩
def Rp.bool : Rp Bool := ⟨1, fun _ x c => c = [.bool x], fun h => by simp [h], fun _ h => h, fun h u hu => by subst h; simp at hu; subst hu; rfl⟩
def Rp.str : Rp (List UInt8) := ⟨1, fun _ x c => ∃ s : ByteArray, s.data.toList = x ∧ s.size ≤ maxLen ∧ c = [.string s], fun h => by obtain ⟨s, _, _, h⟩ := h; simp [h], fun _ h => h, fun h u hu => by obtain ⟨s, _, _, h⟩ := h; subst h; simp at hu; subst hu; rfl⟩
def Rp.vec {α : Type} (r : Rp α) : Rp (List α) := ⟨1, fun H x c => ∃ v, c = [v] ∧ Vec r H v x, fun h => by obtain ⟨v, h, _⟩ := h; simp [h], fun hs h => by obtain ⟨v, h, hv⟩ := h; exact ⟨v, h, hv.mono hs⟩,
  fun h u hu => by obtain ⟨v, h, hv⟩ := h; subst h; simp at hu; subst hu; obtain ⟨a, cap, e⟩ := hv.header; subst e; rfl⟩
def Rp.pair {α β : Type} (r : Rp α) (s : Rp β) : Rp (α × β) := ⟨r.sz + s.sz, fun H x c => ∃ c1 c2, c = c1 ++ c2 ∧ r.rel H x.1 c1 ∧ s.rel H x.2 c2,
  fun h => by obtain ⟨c1, c2, e, h1, h2⟩ := h; simp [e, r.len h1, s.len h2],
  fun hs h => by obtain ⟨c1, c2, e, h1, h2⟩ := h; exact ⟨c1, c2, e, r.mono hs h1, s.mono hs h2⟩,
  fun h u hu => by
    obtain ⟨c1, c2, e, h1, h2⟩ := h
    subst e
    rcases List.mem_append.1 hu with hu | hu
    · exact r.one h1 u hu
    · exact s.one h2 u hu⟩

/-- What the call owns: a variable; a slice at the head of its own row. -/
inductive Res where
  | box (b : Nat) (cs : List Value) (t : TypeId)
  | row (v : Value) (e : TypeId) (sz n : Nat) (xs : List Value)
  | obj (b : Nat) (o : Obj)
def Res.block : Res → Option Nat
  | .box b _ _ => some b
  | .row v _ _ _ _ => v.ownBlock
  | .obj b _ => some b
def Res.ok (w : World) : Res → Prop
  | .box b cs t => w.heap[b]? = some (.cells cs.toArray t (0, 0))
  | .row v e sz n xs => w.ownsRow 0 e sz v n xs
  | .obj b o => w.heap[b]? = some o
theorem Res.ok.lt {w : World} {r : Res} (h : r.ok w) {b : Nat} (hb : r.block = some b) : b < w.heap.size := by
  cases r with
  | box b' cs t => cases hb; exact lt_of_heap h
  | row v e sz n xs => exact (World.ownsRow.lt h b hb).2
  | obj b' o => cases hb; exact lt_of_heap h
theorem Res.ok.same {w w' : World} {r : Res} (h : r.ok w) (hs : ∀ b, r.block = some b → w'.heap[b]? = w.heap[b]?) : r.ok w' := by
  cases r with
  | box b cs t => show w'.heap[b]? = _; rw [hs b rfl]; exact h
  | obj b o => show w'.heap[b]? = _; rw [hs b rfl]; exact h
  | row v e sz n xs =>
    refine ⟨h.1, ?_⟩
    rcases h.2 with hn | ⟨g, cap, cur, rfl, hb, hgg, rest⟩
    · exact .inl hn
    · refine .inr ⟨g, cap, cur, rfl, hb, ?_, rest⟩
      rw [hs g rfl]; exact hgg
theorem Res.ok.ext {w w' : World} {r : Res} (h : r.ok w) (hx : Ext w w') : r.ok w' := h.same fun b hb => hx.block b (h.lt hb)

def owned (O : List Res) (b : Nat) : Bool := O.any fun r => r.block == some b
theorem owned_iff {O : List Res} {b : Nat} : owned O b = true ↔ ∃ r ∈ O, r.block = some b := by simp [owned]
/-- What lies fast: all but what is owned. -/
def fz (w : World) (O : List Res) : PH := fun b => if owned O b then none else w.heap[b]?
theorem fz_le (w : World) (O : List Res) : Le (fz w O) (hp w) := fun b o e => by
  unfold fz at e
  split at e
  · cases e
  · exact e

structure Lcl (w0 : World) (O : List Res) (w : World) : Prop where
  ext : Ext w0 w
  res : ∀ r ∈ O, r.ok w
  own : ∀ r ∈ O, ∀ b, r.block = some b → w0.heap.size ≤ b
  dis : O.Pairwise fun r s => ∀ b, r.block = some b → s.block ≠ some b

theorem Lcl.start (w : World) : Lcl w [] w := ⟨Ext.refl w, (fun _ h => by cases h), (fun _ h => by cases h), List.Pairwise.nil⟩
theorem Lcl.arg {w0 w : World} {O : List Res} (h : Lcl w0 O w) : Le (hp w0) (hp w) := h.ext.le
theorem Lcl.lt {w0 w : World} {O : List Res} (h : Lcl w0 O w) {b : Nat} (hb : owned O b = true) : b < w.heap.size := by
  obtain ⟨r, hr, e⟩ := owned_iff.1 hb
  exact (h.res r hr).lt e
theorem Lcl.argFz {w0 w : World} {O : List Res} (h : Lcl w0 O w) : Le (hp w0) (fz w O) := fun b o e => by
  unfold fz
  rw [if_neg]
  · exact h.arg b o e
  · intro ho
    obtain ⟨r, hr, e'⟩ := owned_iff.1 ho
    have := h.own r hr b e'
    have := lt_of_heap (w := w0) e
    omega
/-- Behind a call that leaves all as it was. -/
theorem Lcl.call {w0 w w' : World} {O : List Res} (h : Lcl w0 O w) (hx : Ext w w') : Lcl w0 O w' :=
  ⟨h.ext.trans hx, fun r hr => (h.res r hr).ext hx, h.own, h.dis⟩
theorem fz_ext {w0 w w' : World} {O : List Res} (_h : Lcl w0 O w) (hx : Ext w w') : Le (fz w O) (fz w' O) := fun b o e => by
  unfold fz at e ⊢
  split at e
  · cases e
  · rename_i ho
    rw [if_neg ho]; exact hx.le b o e
theorem nw_fz {w0 w w' : World} {O : List Res} (h : Lcl w0 O w) : Le (nw w w') (fz w' O) := fun b o e => by
  unfold nw at e
  split at e
  · rename_i hb
    unfold fz
    rw [if_neg]
    · exact e
    · intro ho; have := h.lt ho; omega
  · cases e
/-- What is owned is given up: it lies fast from now on. -/
theorem Lcl.drop {w0 w : World} {O : List Res} {r : Res} (h : Lcl w0 (r :: O) w) : Lcl w0 O w :=
  ⟨h.ext, fun s hs => h.res s (.tail _ hs), fun s hs => h.own s (.tail _ hs), (List.pairwise_cons.1 h.dis).2⟩
theorem fz_drop {w : World} {O : List Res} {r : Res} : Le (fz w (r :: O)) (fz w O) := fun b o e => by
  unfold fz at e ⊢
  split at e
  · cases e
  · rename_i ho
    rw [if_neg]
    · exact e
    · intro h; apply ho; obtain ⟨s, hs, e'⟩ := owned_iff.1 h; exact owned_iff.2 ⟨s, .tail _ hs, e'⟩
theorem Lcl.perm {w0 w : World} {O O' : List Res} (h : Lcl w0 O w) (hp : O'.Perm O) : Lcl w0 O' w :=
  ⟨h.ext, fun r hr => h.res r (hp.mem_iff.1 hr), fun r hr => h.own r (hp.mem_iff.1 hr),
    (hp.symm.pairwise h.dis (fun {_x _y} hxy b hb hx => hxy b hx hb))⟩
theorem fz_perm {w : World} {O O' : List Res} (hp : O'.Perm O) : fz w O' = fz w O := by
  funext b
  unfold fz
  have : owned O' b = owned O b := by
    rw [Bool.eq_iff_iff, owned_iff, owned_iff]
    exact ⟨fun ⟨r, h, e⟩ => ⟨r, hp.mem_iff.1 h, e⟩, fun ⟨r, h, e⟩ => ⟨r, hp.mem_iff.2 h, e⟩⟩
  rw [this]

/-- The first thing owned turns into another; nothing else that was there turns. -/
theorem Lcl.turn {w0 w w' : World} {O : List Res} {r r' : Res} (h : Lcl w0 (r :: O) w) (_ : w.drawn ≤ w'.drawn) (hg : w.grownBy w' r.block) (hok : r'.ok w') (hb : ∀ b, r'.block = some b → r.block = some b ∨ w.heap.size ≤ b) : Lcl w0 (r' :: O) w' := by
  have hh := List.pairwise_cons.1 h.dis
  have hsame : ∀ s ∈ O, ∀ b, s.block = some b → w'.heap[b]? = w.heap[b]? := fun s hs b e => by
    refine hg.block b ((h.res s (.tail _ hs)).lt e) (fun e' => ?_)
    exact hh.1 s hs b e'.symm e
  refine ⟨⟨⟨hg.os.trans h.ext.os, hg.tape.trans h.ext.tape, hg.output.trans h.ext.output, Nat.le_trans h.ext.size hg.size, fun k hk => ?_⟩⟩, fun s hs => ?_, fun s hs b e => ?_, ?_⟩
  · rw [hg.block k (Nat.lt_of_lt_of_le hk h.ext.size) (fun e => ?_)]
    · exact h.ext.block k hk
    · have := h.own r (.head _) k e.symm; omega
  · cases hs with
    | head => exact hok
    | tail _ hs => exact (h.res s (.tail _ hs)).same (hsame s hs)
  · cases hs with
    | head =>
      rcases hb b e with e' | e'
      · exact h.own r (.head _) b e'
      · exact Nat.le_trans h.ext.size e'
    | tail _ hs => exact h.own s (.tail _ hs) b e
  · refine List.pairwise_cons.2 ⟨fun s hs b e e' => ?_, hh.2⟩
    rcases hb b e with e'' | e''
    · exact hh.1 s hs b e'' e'
    · have := (h.res s (.tail _ hs)).lt e'; omega
theorem fz_turn {w0 w w' : World} {O : List Res} {r r' : Res} (_h : Lcl w0 (r :: O) w) (hg : w.grownBy w' r.block) (hb : ∀ b, r'.block = some b → r.block = some b ∨ w.heap.size ≤ b) : Le (fz w (r :: O)) (fz w' (r' :: O)) := fun b o e => by
  unfold fz at e ⊢
  split at e
  · cases e
  · rename_i ho
    have hlt := lt_of_heap e
    have hnr : r.block ≠ some b := fun e' => ho (owned_iff.2 ⟨r, .head _, e'⟩)
    rw [if_neg]
    · rw [hg.block b hlt (fun e' => hnr e'.symm)]; exact e
    · intro hc
      obtain ⟨s, hs, e'⟩ := owned_iff.1 hc
      cases hs with
      | head => rcases hb b e' with h1 | h1
                · exact hnr h1
                · omega
      | tail _ hs => exact ho (owned_iff.2 ⟨s, .tail _ hs, e'⟩)

/-- Something new is owned. -/
theorem Lcl.new {w0 w w' : World} {O : List Res} {r : Res} (h : Lcl w0 O w) (hx : Ext w w') (hok : r.ok w') (hb : ∀ b, r.block = some b → w.heap.size ≤ b) : Lcl w0 (r :: O) w' := by
  have h' := h.call hx
  refine ⟨h'.ext, fun s hs => ?_, fun s hs b e => ?_, List.pairwise_cons.2 ⟨fun s hs b e e' => ?_, h.dis⟩⟩
  · cases hs with
    | head => exact hok
    | tail _ hs => exact h'.res s hs
  · cases hs with
    | head => exact Nat.le_trans h.ext.size (hb b e)
    | tail _ hs => exact h.own s hs b e
  · have := hb b e; have := (h.res s hs).lt e'; omega
theorem fz_new {w0 w w' : World} {O : List Res} {r : Res} (_h : Lcl w0 O w) (hx : Ext w w') (hb : ∀ b, r.block = some b → w.heap.size ≤ b) : Le (fz w O) (fz w' (r :: O)) := fun b o e => by
  unfold fz at e ⊢
  split at e
  · cases e
  · rename_i ho
    have hlt := lt_of_heap e
    rw [if_neg]
    · exact hx.le b o e
    · intro hc
      obtain ⟨s, hs, e'⟩ := owned_iff.1 hc
      cases hs with
      | head => have := hb b e'; omega
      | tail _ hs => exact ho (owned_iff.2 ⟨s, hs, e'⟩)
/-- What a call made, but for one block of it, lies fast beside that block. -/
def nwBut (w w' : World) (v : Value) : PH := fun b => if v.ownBlock = some b then none else nw w w' b
theorem nwBut_fz {w0 w w' : World} {O : List Res} {v : Value} {e : TypeId} {sz n : Nat} {xs : List Value} (h : Lcl w0 O w) : Le (nwBut w w' v) (fz w' (.row v e sz n xs :: O)) := fun b o hb => by
  unfold nwBut at hb
  split at hb
  · cases hb
  · rename_i hne
    have h1 := nw_fz (w' := w') h b o hb
    unfold fz at h1 ⊢
    split at h1
    · cases h1
    · rename_i ho
      rw [if_neg]
      · exact h1
      · intro hc
        obtain ⟨s, hs, e'⟩ := owned_iff.1 hc
        cases hs with
        | head => exact hne e'
        | tail _ hs => exact ho (owned_iff.2 ⟨s, hs, e'⟩)
theorem nwBut_le {w w' : World} {v : Value} : Le (nwBut w w' v) (nw w w') := fun b o hb => by
  unfold nwBut at hb
  split at hb
  · cases hb
  · exact hb

/-- The cells of a list, element by element. -/
inductive Elems {α : Type} (r : Rp α) (H : PH) : List α → List Value → Prop
  | nil : Elems r H [] []
  | cons {x : α} {l : List α} {c cs : List Value} (h : r.rel H x c) (t : Elems r H l cs) : Elems r H (x :: l) (c ++ cs)
section
variable {α : Type} {r : Rp α} {H H' : PH}
theorem Elems.mono {l : List α} {cs : List Value} (h : Elems r H l cs) (hs : Le H H') : Elems r H' l cs := by
  induction h with
  | nil => exact .nil
  | cons h _ ih => exact .cons (r.mono hs h) ih
theorem Elems.len {l : List α} {cs : List Value} (h : Elems r H l cs) : cs.length = l.length * r.sz := by
  induction h with
  | nil => simp
  | cons h _ ih => simp [ih, r.len h, Nat.add_mul, Nat.add_comm]
theorem Elems.one {l : List α} {cs : List Value} (h : Elems r H l cs) : ∀ u ∈ cs, u.oneCell' = true := by
  induction h with
  | nil => simp
  | cons h _ ih => intro u hu; rcases List.mem_append.1 hu with hu | hu; exact r.one h u hu; exact ih u hu
theorem Elems.append {l m : List α} {cs ds : List Value} (h : Elems r H l cs) (k : Elems r H m ds) : Elems r H (l ++ m) (cs ++ ds) := by
  induction h with
  | nil => exact k
  | cons h _ ih => rw [List.cons_append, List.append_assoc]; exact .cons h ih
theorem Elems.single {x : α} {c : List Value} (h : r.rel H x c) : Elems r H [x] c := by simpa using Elems.cons h .nil
theorem Elems.at {l : List α} {cs : List Value} (h : Elems r H l cs) : ∀ i x, l[i]? = some x → ∃ c, r.rel H x c ∧ ∀ j u, c[j]? = some u → cs[i * r.sz + j]? = some u := by
  induction h with
  | nil => intro i x hx; cases hx
  | @cons y l c cs h _ ih =>
    intro i x hx
    cases i with
    | zero =>
      simp only [List.getElem?_cons_zero, Option.some.injEq] at hx
      subst hx
      refine ⟨c, h, fun j u hu => ?_⟩
      rw [Nat.zero_mul, Nat.zero_add, List.getElem?_append_left (List.getElem?_eq_some_iff.1 hu).1]
      exact hu
    | succ i =>
      simp only [List.getElem?_cons_succ] at hx
      obtain ⟨d, hd, hh⟩ := ih i x hx
      refine ⟨d, hd, fun j u hu => ?_⟩
      rw [List.getElem?_append_right (by rw [r.len h, Nat.add_mul]; omega), r.len h]
      rw [show (i + 1) * r.sz + j - r.sz = i * r.sz + j from by rw [Nat.add_mul]; omega]
      exact hh j u hu
end

/-- A slice of the call's own that holds a list. -/
def Own {α : Type} (e : TypeId) (r : Rp α) (w w' : World) (v : Value) (l : List α) : Prop :=
  ∃ xs, w'.ownsRow w.heap.size e r.sz v l.length xs ∧ Elems r (nwBut w w' v) l xs

theorem ownsRow_base {w : World} {b b' : Nat} {e : TypeId} {sz n : Nat} {v : Value} {xs : List Value} (h : w.ownsRow b e sz v n xs) (hb : ∀ k, v.ownBlock = some k → b' ≤ k) : w.ownsRow b' e sz v n xs := by
  refine ⟨h.1, ?_⟩
  rcases h.2 with hn | ⟨g, cap, cur, rfl, hbg, hgg, rest⟩
  · exact .inl hn
  · exact .inr ⟨g, cap, cur, rfl, hb g rfl, hgg, rest⟩

/-- An owned row, its elements' memory in H: it reads as the list wherever the row and H are. -/
theorem vec_of_row {α : Type} {r : Rp α} {w : World} {b : Nat} {e : TypeId} {v : Value} {l : List α} {xs : List Value} {H H' : PH} (h : w.ownsRow b e r.sz v l.length xs) (he : Elems r H l xs) (hs : Le H H')
    (hb : ∀ k, v.ownBlock = some k → ∀ o, w.heap[k]? = some o → H' k = some o) : Vec r H' v l := by
  rcases h.2 with ⟨rfl, hn⟩ | ⟨g, cap, cur, rfl, hbg, hgg, hnc, hcm, hcs, htake⟩
  · have : l = [] := List.eq_nil_of_length_eq_zero hn
    subst this
    exact Vec.nil r H'
  · refine ⟨some ⟨g, 0, none⟩, cap, rfl, hnc, hcm, (fun h => by cases h), fun A hA _ => ?_⟩
    cases hA
    refine ⟨rfl, fun i x hx => ?_⟩
    obtain ⟨c, hc, hcell⟩ := he.at i x hx
    refine ⟨c, r.mono hs hc, fun j u hu => ?_⟩
    have h1 := hcell j u hu
    rw [← htake, List.getElem?_take] at h1
    split at h1
    · simp only [Addr.add_lit, Nat.zero_add, cellP]
      rw [hb g rfl _ hgg]
      simpa using h1
    · cases h1

theorem Own.vec {α : Type} {e : TypeId} {r : Rp α} {w w' : World} {v : Value} {l : List α} (h : Own e r w w' v l) : Vec r (nw w w') v l := by
  obtain ⟨xs, h1, h2⟩ := h
  refine vec_of_row h1 h2 nwBut_le fun k hk o ho => ?_
  have := (h1.lt k hk).1
  unfold nw
  rw [if_pos this]; exact ho
end Go.E
