/- The count of draws never falls. No program in sight. -/
import Derived.WalkKit
import Derived.Test.YtdiieblgeaehpaaGreatDoorEngB
import Derived.StillTail
namespace Go.E
open Go
theorem drawn_setCell (w : World) (a : Addr) (v : Value) : (w.setCell a v).drawn = w.drawn := by
  unfold World.setCell
  split <;> rfl
theorem drawn_freeze (w : World) (a : Addr) (n : Nat) : (w.freeze a n).drawn = w.drawn := by
  unfold World.freeze
  split <;> rfl
theorem drawn_viewStore {p : Program} {w w1 : World} {at_ : Addr} {u : TypeId} {k : Addr} {v : Value} {atomic : Bool} {l : List Addr} (h : w.viewStore p at_ u k v atomic = .ok (w1, l)) : w1.drawn = w.drawn := by
  unfold World.viewStore at h
  simp only [bind, Except.bind, pure, Except.pure, throwThe, MonadExceptOf.throw, MonadExcept.throw] at h
  repeat' split at h
  all_goals first
    | (cases h; done)
    | (cases h; rfl)
theorem drawn_farStore {p : Program} {w w1 : World} {a : Addr} {v : Value} {atomic : Bool} {l : List Addr} (h : w.farStore p a v atomic = .ok (w1, l)) : w1.drawn = w.drawn := by
  unfold World.farStore at h
  split at h
  · split at h
    · rename_i r hr; cases h; exact drawn_viewStore hr
    · cases h
  · cases h
theorem drawn_ask {α : Type} : ∀ (q : Ask α) (w : World), w.drawn ≤ (w.ask q).2.drawn
  | .done a, w => Nat.le_refl _
  | .ask what range k, w => by
    unfold World.ask
    simp only
    split
    · exact drawn_ask (k 0) w
    · exact Nat.le_trans (Nat.le_succ _) (drawn_ask _ { w with drawn := w.drawn + 1 })
theorem drawn_sys (w : World) (c : Sys) : w.drawn ≤ (w.sys c).2.drawn := by
  unfold World.sys
  have := drawn_ask (Kernel.perform c w.os) w
  split
  · exact Nat.le_refl _
  · rename_i r os w1 _ e
    rw [e] at this
    exact this
theorem run_drawn {α : Type} {p : Program} : ∀ (s : Sem α) (w : World) (a : α) (w' : World), s.run p w = .ok a w' → w.drawn ≤ w'.drawn := by
  intro s
  induction s with
  | pure a => intro w x w' h; cases h; exact Nat.le_refl _
  | load m a k ih =>
    intro w x w' h
    unfold Sem.run at h
    split at h
    · exact ih _ _ _ _ h
    · split at h
      · exact ih _ _ _ _ h
      · cases h
  | store m a v k ih =>
    intro w x w' h
    cases v <;> simp only [Sem.run] at h
    all_goals first
      | (cases h; done)
      | (split at h
         · split at h
           · cases h
           · have := ih _ _ _ h; rwa [drawn_setCell] at this
         · split at h
           · rename_i hf
             have h1 := ih _ _ _ h
             rw [drawn_farStore hf] at h1
             exact h1
           · cases h)
  | new o k ih => intro w x w' h; exact ih _ { w with heap := w.heap.push o } _ _ h
  | shape r k ih => intro w x w' h; exact ih _ _ _ _ h
  | freeze a n k ih => intro w x w' h; have := ih _ _ _ h; rwa [drawn_freeze] at this
  | frozen a k ih => intro w x w' h; exact ih _ _ _ _ h
  | getObj r k ih =>
    intro w x w' h
    unfold Sem.run at h
    split at h
    · cases h
    · exact ih _ _ _ _ h
    · cases h
  | setObj r o k ih =>
    intro w x w' h
    unfold Sem.run at h
    split at h
    · cases h
    · exact ih { w with heap := w.heap.setIfInBounds r o } _ _ h
    · cases h
  | choose q k ih =>
    intro w x w' h
    unfold Sem.run at h
    split at h
    · exact ih _ _ _ _ h
    · have := ih _ _ _ _ h
      simp only at this
      omega
  | sys c k ih =>
    intro w x w' h
    refine Nat.le_trans ?_ (ih _ _ _ _ h)
    exact drawn_sys w c
  | program k ih => intro w x w' h; exact ih _ _ _ _ h
  | mark m k ih => intro w x w' h; exact ih _ _ _ h
  | halt h => intro w x w' h; cases h
end Go.E
namespace Go.E
open Go Go.RowKit
/-- What was there is as it was. -/
structure Ext (w w' : World) : Prop extends Below w.heap.size w w'
theorem Ext.refl (w : World) : Ext w w := ⟨Below.refl _ _⟩
theorem Ext.trans {a b c : World} (h : Ext a b) (k : Ext b c) : Ext a c := ⟨Below.trans h.toBelow (Below.mono k.toBelow h.size)⟩
/-- A part of a heap that is only read. -/
abbrev PH := Nat → Option Obj
def Le (A B : PH) : Prop := ∀ b o, A b = some o → B b = some o
theorem Le.refl (A : PH) : Le A A := fun _ _ h => h
theorem Le.trans {A B C : PH} (h : Le A B) (k : Le B C) : Le A C := fun b o e => k b o (h b o e)
def hp (w : World) : PH := fun b => w.heap[b]?
def nw (w w' : World) : PH := fun b => if w.heap.size ≤ b then w'.heap[b]? else none
theorem lt_of_heap {w : World} {b : Nat} {o : Obj} (h : w.heap[b]? = some o) : b < w.heap.size := (Array.getElem?_eq_some_iff.1 h).1
theorem Ext.le {w w' : World} (h : Ext w w') : Le (hp w) (hp w') := fun b o e => by
  have : b < w.heap.size := lt_of_heap e
  show w'.heap[b]? = some o
  rw [h.block b this]; exact e
theorem Le.ext {A : PH} {w w' : World} (h : Le A (hp w)) (hx : Ext w w') : Le A (hp w') := h.trans hx.le
def cellP (H : PH) (a : Addr) : Option Value :=
  match H a.block with
  | some (.cells c _ _) => if a.spot.isSome then none else c[a.off]?
  | _ => none
theorem cellP_hp (w : World) (a : Addr) : cellP (hp w) a = w.cell? a := rfl
theorem cellP_mono {A B : PH} (h : Le A B) {a : Addr} {v : Value} (e : cellP A a = some v) : cellP B a = some v := by
  unfold cellP at e ⊢
  split at e
  · rename_i c t f hc; rw [h _ _ hc]; exact e
  · cases e
theorem cell_of {H : PH} {w : World} (h : Le H (hp w)) {a : Addr} {v : Value} (e : cellP H a = some v) : w.cell? a = some v := cellP_mono h e
/-- How a kind of data lies in cells. -/
structure Rp (α : Type) where
  sz : Nat
  rel : PH → α → List Value → Prop
  len : ∀ {H x c}, rel H x c → c.length = sz
  mono : ∀ {H H' x c}, Le H H' → rel H x c → rel H' x c
  one : ∀ {H x c}, rel H x c → ∀ u ∈ c, u.oneCell' = true
def PtrTo (H : PH) (p : Addr) (c : List Value) : Prop := p.spot = none ∧ ∀ j u, c[j]? = some u → cellP H (p.add j) = some u
/-- A slice that reads as a list. -/
structure Vec {α : Type} (r : Rp α) (H : PH) (v : Value) (l : List α) : Prop where
  ex : ∃ a cap, v = .slice a l.length cap ∧ l.length ≤ cap ∧ cap ≤ maxLen ∧ (a = none → cap = 0) ∧
    ∀ A, a = some A → l ≠ [] → A.spot = none ∧ ∀ i x, l[i]? = some x → ∃ c, r.rel H x c ∧ ∀ j u, c[j]? = some u → cellP H (A.add (i * r.sz + j)) = some u
theorem Vec.mono {α : Type} {r : Rp α} {H H' : PH} {v : Value} {l : List α} (h : Vec r H v l) (hs : Le H H') : Vec r H' v l := by
  obtain ⟨a, cap, h1, h2, h3, h4, h5⟩ := h.ex
  refine ⟨a, cap, h1, h2, h3, h4, fun A hA hl => ?_⟩
  obtain ⟨h6, h7⟩ := h5 A hA hl
  refine ⟨h6, fun i x hx => ?_⟩
  obtain ⟨c, hc, hcell⟩ := h7 i x hx
  exact ⟨c, r.mono hs hc, fun j u hu => cellP_mono hs (hcell j u hu)⟩
theorem Vec.nil {α : Type} (r : Rp α) (H : PH) : Vec r H (.slice none 0 0) ([] : List α) :=
  ⟨none, 0, rfl, Nat.le_refl _, Nat.zero_le _, fun _ => rfl, fun _ h => by cases h⟩
theorem Vec.header {α : Type} {r : Rp α} {H : PH} {v : Value} {l : List α} (h : Vec r H v l) : ∃ a cap, v = .slice a l.length cap := by
  obtain ⟨a, cap, h1, _⟩ := h.ex; exact ⟨a, cap, h1⟩
/-- A number in one cell. -/
def Rp.int (k : IntKind) : Rp Int := ⟨1, fun _ x c => c = [.int k x], fun h => by simp [h], fun _ h => h, fun h u hu => by subst h; simp at hu; subst hu; rfl⟩
def Rp.byte : Rp UInt8 := ⟨1, fun _ x c => c = [.int .u8 (x.toNat : Int)], fun h => by simp [h], fun _ h => h, fun h u hu => by subst h; simp at hu; subst hu; rfl⟩
def Rp.bool : Rp Bool := ⟨1, fun _ x c => c = [.bool x], fun h => by simp [h], fun _ h => h, fun h u hu => by subst h; simp at hu; subst hu; rfl⟩
def Rp.str : Rp (List UInt8) := ⟨1, fun _ x c => ∃ s : ByteArray, s.data.toList = x ∧ s.size ≤ maxLen ∧ c = [.string s], fun h => by obtain ⟨s, _, _, h⟩ := h; simp [h], fun _ h => h, fun h u hu => by obtain ⟨s, _, _, h⟩ := h; subst h; simp at hu; subst hu; rfl⟩
def Rp.vec {α : Type} (r : Rp α) : Rp (List α) := ⟨1, fun H x c => ∃ v, c = [v] ∧ Vec r H v x, fun h => by obtain ⟨v, h, _⟩ := h; simp [h], fun hs h => by obtain ⟨v, h, hv⟩ := h; exact ⟨v, h, hv.mono hs⟩,
  fun h u hu => by obtain ⟨v, h, hv⟩ := h; subst h; simp at hu; subst hu; obtain ⟨a, cap, e⟩ := hv.header; subst e; rfl⟩
def Rp.pair {α β : Type} (r : Rp α) (s : Rp β) : Rp (α × β) := ⟨r.sz + s.sz, fun H x c => ∃ c1 c2, c = c1 ++ c2 ∧ r.rel H x.1 c1 ∧ s.rel H x.2 c2,
  fun h => by obtain ⟨c1, c2, e, h1, h2⟩ := h; simp [e, r.len h1, s.len h2],
  fun hs h => by obtain ⟨c1, c2, e, h1, h2⟩ := h; exact ⟨c1, c2, e, r.mono hs h1, s.mono hs h2⟩,
  fun h u hu => by
    obtain ⟨c1, c2, e, h1, h2⟩ := h
    subst e
    rcases List.mem_append.1 hu with hu | hu
    · exact r.one h1 u hu
    · exact s.one h2 u hu⟩
/-- What the call owns: a variable; a slice at the head of its own row. -/
inductive Res where
  | box (b : Nat) (cs : List Value) (t : TypeId)
  | row (v : Value) (e : TypeId) (sz n : Nat) (xs : List Value)
  | obj (b : Nat) (o : Obj)
def Res.block : Res → Option Nat
  | .box b _ _ => some b
  | .row v _ _ _ _ => v.ownBlock
  | .obj b _ => some b
def Res.ok (w : World) : Res → Prop
  | .box b cs t => w.heap[b]? = some (.cells cs.toArray t (0, 0))
  | .row v e sz n xs => w.ownsRow 0 e sz v n xs
  | .obj b o => w.heap[b]? = some o
theorem Res.ok.lt {w : World} {r : Res} (h : r.ok w) {b : Nat} (hb : r.block = some b) : b < w.heap.size := by
  cases r with
  | box b' cs t => cases hb; exact lt_of_heap h
  | row v e sz n xs => exact (World.ownsRow.lt h b hb).2
  | obj b' o => cases hb; exact lt_of_heap h
theorem Res.ok.same {w w' : World} {r : Res} (h : r.ok w) (hs : ∀ b, r.block = some b → w'.heap[b]? = w.heap[b]?) : r.ok w' := by
  cases r with
  | box b cs t => show w'.heap[b]? = _; rw [hs b rfl]; exact h
  | obj b o => show w'.heap[b]? = _; rw [hs b rfl]; exact h
  | row v e sz n xs =>
    refine ⟨h.1, ?_⟩
    rcases h.2 with hn | ⟨g, cap, cur, rfl, hb, hgg, rest⟩
    · exact .inl hn
    · refine .inr ⟨g, cap, cur, rfl, hb, ?_, rest⟩
      rw [hs g rfl]; exact hgg
theorem Res.ok.ext {w w' : World} {r : Res} (h : r.ok w) (hx : Ext w w') : r.ok w' := h.same fun b hb => hx.block b (h.lt hb)
def owned (O : List Res) (b : Nat) : Bool := O.any fun r => r.block == some b
theorem owned_iff {O : List Res} {b : Nat} : owned O b = true ↔ ∃ r ∈ O, r.block = some b := by simp [owned]
/-- What lies fast: all but what is owned. -/
def fz (w : World) (O : List Res) : PH := fun b => if owned O b then none else w.heap[b]?
theorem fz_le (w : World) (O : List Res) : Le (fz w O) (hp w) := fun b o e => by
  unfold fz at e
  split at e
  · cases e
  · exact e
structure Lcl (w0 : World) (O : List Res) (w : World) : Prop where
  ext : Ext w0 w
  res : ∀ r ∈ O, r.ok w
  own : ∀ r ∈ O, ∀ b, r.block = some b → w0.heap.size ≤ b
  dis : O.Pairwise fun r s => ∀ b, r.block = some b → s.block ≠ some b
theorem Lcl.start (w : World) : Lcl w [] w := ⟨Ext.refl w, (fun _ h => by cases h), (fun _ h => by cases h), List.Pairwise.nil⟩
theorem Lcl.arg {w0 w : World} {O : List Res} (h : Lcl w0 O w) : Le (hp w0) (hp w) := h.ext.le
theorem Lcl.lt {w0 w : World} {O : List Res} (h : Lcl w0 O w) {b : Nat} (hb : owned O b = true) : b < w.heap.size := by
  obtain ⟨r, hr, e⟩ := owned_iff.1 hb
  exact (h.res r hr).lt e
theorem Lcl.argFz {w0 w : World} {O : List Res} (h : Lcl w0 O w) : Le (hp w0) (fz w O) := fun b o e => by
  unfold fz
  rw [if_neg]
  · exact h.arg b o e
  · intro ho
    obtain ⟨r, hr, e'⟩ := owned_iff.1 ho
    have := h.own r hr b e'
    have := lt_of_heap (w := w0) e
    omega
/-- Behind a call that leaves all as it was. -/
theorem Lcl.call {w0 w w' : World} {O : List Res} (h : Lcl w0 O w) (hx : Ext w w') : Lcl w0 O w' :=
  ⟨h.ext.trans hx, fun r hr => (h.res r hr).ext hx, h.own, h.dis⟩
theorem fz_ext {w0 w w' : World} {O : List Res} (_h : Lcl w0 O w) (hx : Ext w w') : Le (fz w O) (fz w' O) := fun b o e => by
  unfold fz at e ⊢
  split at e
  · cases e
  · rename_i ho
    rw [if_neg ho]; exact hx.le b o e
theorem nw_fz {w0 w w' : World} {O : List Res} (h : Lcl w0 O w) : Le (nw w w') (fz w' O) := fun b o e => by
  unfold nw at e
  split at e
  · rename_i hb
    unfold fz
    rw [if_neg]
    · exact e
    · intro ho; have := h.lt ho; omega
  · cases e
/-- What is owned is given up: it lies fast from now on. -/
theorem Lcl.drop {w0 w : World} {O : List Res} {r : Res} (h : Lcl w0 (r :: O) w) : Lcl w0 O w :=
  ⟨h.ext, fun s hs => h.res s (.tail _ hs), fun s hs => h.own s (.tail _ hs), (List.pairwise_cons.1 h.dis).2⟩
theorem fz_drop {w : World} {O : List Res} {r : Res} : Le (fz w (r :: O)) (fz w O) := fun b o e => by
  unfold fz at e ⊢
  split at e
  · cases e
  · rename_i ho
    rw [if_neg]
    · exact e
    · intro h; apply ho; obtain ⟨s, hs, e'⟩ := owned_iff.1 h; exact owned_iff.2 ⟨s, .tail _ hs, e'⟩
theorem Lcl.perm {w0 w : World} {O O' : List Res} (h : Lcl w0 O w) (hp : O'.Perm O) : Lcl w0 O' w :=
  ⟨h.ext, fun r hr => h.res r (hp.mem_iff.1 hr), fun r hr => h.own r (hp.mem_iff.1 hr),
    (hp.symm.pairwise h.dis (fun {_x _y} hxy b hb hx => hxy b hx hb))⟩
theorem fz_perm {w : World} {O O' : List Res} (hp : O'.Perm O) : fz w O' = fz w O := by
  funext b
  unfold fz
  have : owned O' b = owned O b := by
    rw [Bool.eq_iff_iff, owned_iff, owned_iff]
    exact ⟨fun ⟨r, h, e⟩ => ⟨r, hp.mem_iff.1 h, e⟩, fun ⟨r, h, e⟩ => ⟨r, hp.mem_iff.2 h, e⟩⟩
  rw [this]
/-- The first thing owned turns into another; nothing else that was there turns. -/
theorem Lcl.turn {w0 w w' : World} {O : List Res} {r r' : Res} (h : Lcl w0 (r :: O) w) (_ : w.drawn ≤ w'.drawn) (hg : w.grownBy w' r.block) (hok : r'.ok w') (hb : ∀ b, r'.block = some b → r.block = some b ∨ w.heap.size ≤ b) : Lcl w0 (r' :: O) w' := by
  have hh := List.pairwise_cons.1 h.dis
  have hsame : ∀ s ∈ O, ∀ b, s.block = some b → w'.heap[b]? = w.heap[b]? := fun s hs b e => by
    refine hg.block b ((h.res s (.tail _ hs)).lt e) (fun e' => ?_)
    exact hh.1 s hs b e'.symm e
  refine ⟨⟨⟨hg.os.trans h.ext.os, hg.tape.trans h.ext.tape, hg.output.trans h.ext.output, Nat.le_trans h.ext.size hg.size, fun k hk => ?_⟩⟩, fun s hs => ?_, fun s hs b e => ?_, ?_⟩
  · rw [hg.block k (Nat.lt_of_lt_of_le hk h.ext.size) (fun e => ?_)]
    · exact h.ext.block k hk
    · have := h.own r (.head _) k e.symm; omega
  · cases hs with
    | head => exact hok
    | tail _ hs => exact (h.res s (.tail _ hs)).same (hsame s hs)
  · cases hs with
    | head =>
      rcases hb b e with e' | e'
      · exact h.own r (.head _) b e'
      · exact Nat.le_trans h.ext.size e'
    | tail _ hs => exact h.own s (.tail _ hs) b e
  · refine List.pairwise_cons.2 ⟨fun s hs b e e' => ?_, hh.2⟩
    rcases hb b e with e'' | e''
    · exact hh.1 s hs b e'' e'
    · have := (h.res s (.tail _ hs)).lt e'; omega
theorem fz_turn {w0 w w' : World} {O : List Res} {r r' : Res} (_h : Lcl w0 (r :: O) w) (hg : w.grownBy w' r.block) (hb : ∀ b, r'.block = some b → r.block = some b ∨ w.heap.size ≤ b) : Le (fz w (r :: O)) (fz w' (r' :: O)) := fun b o e => by
  unfold fz at e ⊢
  split at e
  · cases e
  · rename_i ho
    have hlt := lt_of_heap e
    have hnr : r.block ≠ some b := fun e' => ho (owned_iff.2 ⟨r, .head _, e'⟩)
    rw [if_neg]
    · rw [hg.block b hlt (fun e' => hnr e'.symm)]; exact e
    · intro hc
      obtain ⟨s, hs, e'⟩ := owned_iff.1 hc
      cases hs with
      | head => rcases hb b e' with h1 | h1
                · exact hnr h1
                · omega
      | tail _ hs => exact ho (owned_iff.2 ⟨s, .tail _ hs, e'⟩)
/-- Something new is owned. -/
theorem Lcl.new {w0 w w' : World} {O : List Res} {r : Res} (h : Lcl w0 O w) (hx : Ext w w') (hok : r.ok w') (hb : ∀ b, r.block = some b → w.heap.size ≤ b) : Lcl w0 (r :: O) w' := by
  have h' := h.call hx
  refine ⟨h'.ext, fun s hs => ?_, fun s hs b e => ?_, List.pairwise_cons.2 ⟨fun s hs b e e' => ?_, h.dis⟩⟩
  · cases hs with
    | head => exact hok
    | tail _ hs => exact h'.res s hs
  · cases hs with
    | head => exact Nat.le_trans h.ext.size (hb b e)
    | tail _ hs => exact h.own s hs b e
  · have := hb b e; have := (h.res s hs).lt e'; omega
theorem fz_new {w0 w w' : World} {O : List Res} {r : Res} (_h : Lcl w0 O w) (hx : Ext w w') (hb : ∀ b, r.block = some b → w.heap.size ≤ b) : Le (fz w O) (fz w' (r :: O)) := fun b o e => by
  unfold fz at e ⊢
  split at e
  · cases e
  · rename_i ho
    have hlt := lt_of_heap e
    rw [if_neg]
    · exact hx.le b o e
    · intro hc
      obtain ⟨s, hs, e'⟩ := owned_iff.1 hc
      cases hs with
      | head => have := hb b e'; omega
      | tail _ hs => exact ho (owned_iff.2 ⟨s, hs, e'⟩)
/-- What a call made, but for one block of it, lies fast beside that block. -/
def nwBut (w w' : World) (v : Value) : PH := fun b => if v.ownBlock = some b then none else nw w w' b
theorem nwBut_fz {w0 w w' : World} {O : List Res} {v : Value} {e : TypeId} {sz n : Nat} {xs : List Value} (h : Lcl w0 O w) : Le (nwBut w w' v) (fz w' (.row v e sz n xs :: O)) := fun b o hb => by
  unfold nwBut at hb
  split at hb
  · cases hb
  · rename_i hne
    have h1 := nw_fz (w' := w') h b o hb
    unfold fz at h1 ⊢
    split at h1
    · cases h1
    · rename_i ho
      rw [if_neg]
      · exact h1
      · intro hc
        obtain ⟨s, hs, e'⟩ := owned_iff.1 hc
        cases hs with
        | head => exact hne e'
        | tail _ hs => exact ho (owned_iff.2 ⟨s, hs, e'⟩)
theorem nwBut_le {w w' : World} {v : Value} : Le (nwBut w w' v) (nw w w') := fun b o hb => by
  unfold nwBut at hb
  split at hb
  · cases hb
  · exact hb
/-- The cells of a list, element by element. -/
inductive Elems {α : Type} (r : Rp α) (H : PH) : List α → List Value → Prop
  | nil : Elems r H [] []
  | cons {x : α} {l : List α} {c cs : List Value} (h : r.rel H x c) (t : Elems r H l cs) : Elems r H (x :: l) (c ++ cs)
section
variable {α : Type} {r : Rp α} {H H' : PH}
theorem Elems.mono {l : List α} {cs : List Value} (h : Elems r H l cs) (hs : Le H H') : Elems r H' l cs := by
  induction h with
  | nil => exact .nil
  | cons h _ ih => exact .cons (r.mono hs h) ih
theorem Elems.len {l : List α} {cs : List Value} (h : Elems r H l cs) : cs.length = l.length * r.sz := by
  induction h with
  | nil => simp
  | cons h _ ih => simp [ih, r.len h, Nat.add_mul, Nat.add_comm]
theorem Elems.one {l : List α} {cs : List Value} (h : Elems r H l cs) : ∀ u ∈ cs, u.oneCell' = true := by
  induction h with
  | nil => simp
  | cons h _ ih => intro u hu; rcases List.mem_append.1 hu with hu | hu; exact r.one h u hu; exact ih u hu
theorem Elems.append {l m : List α} {cs ds : List Value} (h : Elems r H l cs) (k : Elems r H m ds) : Elems r H (l ++ m) (cs ++ ds) := by
  induction h with
  | nil => exact k
  | cons h _ ih => rw [List.cons_append, List.append_assoc]; exact .cons h ih
theorem Elems.at {l : List α} {cs : List Value} (h : Elems r H l cs) : ∀ i x, l[i]? = some x → ∃ c, r.rel H x c ∧ ∀ j u, c[j]? = some u → cs[i * r.sz + j]? = some u := by
  induction h with
  | nil => intro i x hx; cases hx
  | @cons y l c cs h _ ih =>
    intro i x hx
    cases i with
    | zero =>
      simp only [List.getElem?_cons_zero, Option.some.injEq] at hx
      subst hx
      refine ⟨c, h, fun j u hu => ?_⟩
      rw [Nat.zero_mul, Nat.zero_add, List.getElem?_append_left (List.getElem?_eq_some_iff.1 hu).1]
      exact hu
    | succ i =>
      simp only [List.getElem?_cons_succ] at hx
      obtain ⟨d, hd, hh⟩ := ih i x hx
      refine ⟨d, hd, fun j u hu => ?_⟩
      rw [List.getElem?_append_right (by rw [r.len h, Nat.add_mul]; omega), r.len h]
      rw [show (i + 1) * r.sz + j - r.sz = i * r.sz + j from by rw [Nat.add_mul]; omega]
      exact hh j u hu
end
/-- A slice of the call's own that holds a list. -/
def Own {α : Type} (e : TypeId) (r : Rp α) (w w' : World) (v : Value) (l : List α) : Prop :=
  ∃ xs, w'.ownsRow w.heap.size e r.sz v l.length xs ∧ Elems r (nwBut w w' v) l xs
theorem ownsRow_base {w : World} {b b' : Nat} {e : TypeId} {sz n : Nat} {v : Value} {xs : List Value} (h : w.ownsRow b e sz v n xs) (hb : ∀ k, v.ownBlock = some k → b' ≤ k) : w.ownsRow b' e sz v n xs := by
  refine ⟨h.1, ?_⟩
  rcases h.2 with hn | ⟨g, cap, cur, rfl, hbg, hgg, rest⟩
  · exact .inl hn
  · exact .inr ⟨g, cap, cur, rfl, hb g rfl, hgg, rest⟩
/-- An owned row, its elements' memory in H: it reads as the list wherever the row and H are. -/
theorem vec_of_row {α : Type} {r : Rp α} {w : World} {b : Nat} {e : TypeId} {v : Value} {l : List α} {xs : List Value} {H H' : PH} (h : w.ownsRow b e r.sz v l.length xs) (he : Elems r H l xs) (hs : Le H H')
    (hb : ∀ k, v.ownBlock = some k → ∀ o, w.heap[k]? = some o → H' k = some o) : Vec r H' v l := by
  rcases h.2 with ⟨rfl, hn⟩ | ⟨g, cap, cur, rfl, hbg, hgg, hnc, hcm, hcs, htake⟩
  · have : l = [] := List.eq_nil_of_length_eq_zero hn
    subst this
    exact Vec.nil r H'
  · refine ⟨some ⟨g, 0, none⟩, cap, rfl, hnc, hcm, (fun h => by cases h), fun A hA _ => ?_⟩
    cases hA
    refine ⟨rfl, fun i x hx => ?_⟩
    obtain ⟨c, hc, hcell⟩ := he.at i x hx
    refine ⟨c, r.mono hs hc, fun j u hu => ?_⟩
    have h1 := hcell j u hu
    rw [← htake, List.getElem?_take] at h1
    split at h1
    · simp only [Addr.add_lit, Nat.zero_add, cellP]
      rw [hb g rfl _ hgg]
      simpa using h1
    · cases h1
theorem Own.vec {α : Type} {e : TypeId} {r : Rp α} {w w' : World} {v : Value} {l : List α} (h : Own e r w w' v l) : Vec r (nw w w') v l := by
  obtain ⟨xs, h1, h2⟩ := h
  refine vec_of_row h1 h2 nwBut_le fun k hk o ho => ?_
  have := (h1.lt k hk).1
  unfold nw
  rw [if_pos this]; exact ho
end Go.E
namespace Go.E
open Go Go.RowKit
/-- How a region is walked: operations that only look (or whose value is the same in every later world), operations that make memory, the tail from k on. -/
inductive Tr where
  | tail (k : Nat)
  | q (i : Nat) (t : Tr)
  | h (i : Nat) (t : Tr)
  | h2 (i : Nat) (t : Tr) (j : Nat) (u : Tr)
  | h3 (i : Nat) (t : Tr) (j : Nat) (u : Tr) (l : Nat) (v : Tr)
def Tr.count : Tr → Nat
  | .tail _ => 0
  | .q _ t => t.count + 1
  | .h _ t => t.count + 1
  | .h2 _ t _ _ => t.count + 1
  | .h3 _ t _ _ _ _ => t.count + 1
def Tr.last : Tr → Nat
  | .tail k => k
  | .q _ t => t.last
  | .h _ t => t.last
  | .h2 _ t _ _ => t.last
  | .h3 _ t _ _ _ _ => t.last
def chainB (ops : Array Oper) : Nat → Nat → Array Bool → Bool
  | 0, _, listed => Region.ready .any ops listed == []
  | m + 1, k, listed => Region.ready .any ops listed == [k] && chainB ops m (k + 1) (listed.setIfInBounds k true)
def chk (ops : Array Oper) : Tr → Array Bool → Bool
  | .tail k, listed => chainB ops (ops.size - k) k listed
  | .q i t, listed => (Region.ready .any ops listed).contains i && Region.free .any ops listed i && Nat.blt i t.last && chk ops t (listed.setIfInBounds i true)
  | .h i t, listed => Region.ready .any ops listed == [i] && Nat.blt i t.last && chk ops t (listed.setIfInBounds i true)
  | .h2 i t j u, listed => Region.ready .any ops listed == [i, j] && Nat.blt i t.last && Nat.blt j t.last && t.count == u.count && t.last == u.last && chk ops t (listed.setIfInBounds i true) && chk ops u (listed.setIfInBounds j true)
  | .h3 i t j u l v, listed => Region.ready .any ops listed == [i, j, l] && Nat.blt i t.last && Nat.blt j t.last && Nat.blt l t.last && t.count == u.count && t.last == u.last && t.count == v.count && t.last == v.last && chk ops t (listed.setIfInBounds i true) && chk ops u (listed.setIfInBounds j true) && chk ops v (listed.setIfInBounds l true)
section
variable (P : Program) (ops : Array Oper)
def runx (a : Act) (o : Oper) (K : Act → World → Prop) : Result Next → Prop
  | .ok (.value v) w' => K (a.put o.dst v) w'
  | .ok .skip w' => K (a.put o.dst undef) w'
  | .ok (.enter f args) w' => Calls P f args w' (fun e w'' => ∃ v, e = .returned v ∧ K (a.put o.dst v) w'')
  | _ => False
def opx (o : Oper) (K : Act → World → Prop) (a : Act) (w : World) : Prop :=
  if Region.wanted o (yielded ops a.tmps) then runx P a o K ((execOp a.eval o).run P w) else K (a.put o.dst undef) w
/-- The same value in every later world. -/
def yx (o : Oper) (v : Value) (a : Act) (w : World) : Prop :=
  (Region.wanted o (yielded ops a.tmps) = true ∧ ∀ w', Ext w w' → match (execOp a.eval o).run P w' with
    | .ok (.value u) w'' => w'' = w' ∧ u = v
    | .ok (.enter f args) w'' => w'' = w' ∧ Calls P f args w' (fun e w3 => e = .returned v ∧ Ext w' w3)
    | _ => False) ∨
  (Region.wanted o (yielded ops a.tmps) = false ∧ v = undef)
/-- b: a world that all worlds from here on leave as it is; what only looks, looks at it. -/
def X (Q : Exit → Act → World → Prop) : Tr → World → Act → World → Prop
  | .tail k, _, a, w => ∀ w', Ext w w' → wpOps P ops Q (List.range' k (ops.size - k)) a w'
  | .q i t, b, a, w => ∃ o v, ops[i]? = some o ∧ yx P ops o v a b ∧ X Q t b (a.put o.dst v) w
  | .h i t, b, a, w => ∃ o, ops[i]? = some o ∧ ∀ w', Ext w w' → opx P ops o (fun a'' w'' => ∃ b', Ext b b' ∧ Ext b' w'' ∧ X Q t b' a'' w'') a w'
  | .h2 i t j u, b, a, w => (∃ o, ops[i]? = some o ∧ ∀ w', Ext w w' → opx P ops o (fun a'' w'' => ∃ b', Ext b b' ∧ Ext b' w'' ∧ X Q t b' a'' w'') a w') ∧
      (∃ o, ops[j]? = some o ∧ ∀ w', Ext w w' → opx P ops o (fun a'' w'' => ∃ b', Ext b b' ∧ Ext b' w'' ∧ X Q u b' a'' w'') a w')
  | .h3 i t j u l v, b, a, w => (∃ o, ops[i]? = some o ∧ ∀ w', Ext w w' → opx P ops o (fun a'' w'' => ∃ b', Ext b b' ∧ Ext b' w'' ∧ X Q t b' a'' w'') a w') ∧
      (∃ o, ops[j]? = some o ∧ ∀ w', Ext w w' → opx P ops o (fun a'' w'' => ∃ b', Ext b b' ∧ Ext b' w'' ∧ X Q u b' a'' w'') a w') ∧
      (∃ o, ops[l]? = some o ∧ ∀ w', Ext w w' → opx P ops o (fun a'' w'' => ∃ b', Ext b b' ∧ Ext b' w'' ∧ X Q v b' a'' w'') a w')
/-- Whatever order, the tail aside. -/
def Y (Q : Exit → Act → World → Prop) (k : Nat) (b : World) : Nat → Array Bool → Act → World → Prop
  | 0, listed, a, w => chainB ops (ops.size - k) k listed = true ∧ ∀ w', Ext w w' → wpOps P ops Q (List.range' k (ops.size - k)) a w'
  | m + 1, listed, a, w => Region.ready .any ops listed ≠ [] ∧ ∀ w', Ext w w' → ∀ i ∈ Region.ready .any ops listed, ∃ o, ops[i]? = some o ∧
      opx P ops o (fun a'' w'' => Ext b w'' ∧ Y Q k b m (listed.setIfInBounds i true) a'' w'') a w'
end
section
variable {P : Program} {ops : Array Oper} {Q : Exit → Act → World → Prop}
theorem runx_mono {a : Act} {o : Oper} {K K' : Act → World → Prop} (h : ∀ a w, K a w → K' a w) : ∀ {r : Result Next}, runx P a o K r → runx P a o K' r := by
  intro r hr
  cases r with
  | ok nx w' =>
    cases nx <;> simp only [runx] at hr ⊢
    case value v => exact h _ _ hr
    case skip => exact h _ _ hr
    case enter f args => exact hr.mono fun e w'' ⟨v, he, hv⟩ => ⟨v, he, h _ _ hv⟩
  | halt x w' => simp only [runx] at hr
theorem opx_mono {o : Oper} {K K' : Act → World → Prop} (h : ∀ a w, K a w → K' a w) {a : Act} {w : World} (hh : opx P ops o K a w) : opx P ops o K' a w := by
  unfold opx at hh ⊢
  split
  · rename_i hw; rw [if_pos hw] at hh; exact runx_mono h hh
  · rename_i hw; rw [if_neg hw] at hh; exact h _ _ hh
theorem wpOp_of_opx {i : Nat} {o : Oper} (hi : ops[i]? = some o) {K : Act → World → Prop} {a : Act} {w : World} (h : opx P ops o K a w) : wpOp P ops Q i K a w := by
  unfold wpOp
  simp only [hi]
  unfold opx at h
  split
  · rename_i hw
    rw [if_pos hw] at h
    refine .inl ?_
    unfold Oper.wp
    generalize (execOp a.eval o).run P w = r at h ⊢
    cases r with
    | ok nx w' =>
      cases nx <;> simp only [runx] at h <;> simp only [Oper.upon]
      case value v => exact h
      case skip => exact h
      case enter f args => exact h.mono fun e w'' ⟨v, he, hv⟩ => by subst he; exact hv
    | halt x w' => simp only [runx] at h
  · rename_i hw; rw [if_neg hw] at h; exact h
theorem opx_of_yx {o : Oper} {v : Value} {a : Act} {w w' : World} (h : yx P ops o v a w) (hx : Ext w w') {K : Act → World → Prop} (hK : ∀ w'', Ext w' w'' → K (a.put o.dst v) w'') : opx P ops o K a w' := by
  unfold opx
  rcases h with ⟨hw, h⟩ | ⟨hw, rfl⟩
  · rw [if_pos hw]
    have h1 := h w' hx
    generalize (execOp a.eval o).run P w' = r at h1 ⊢
    cases r with
    | ok nx w1 =>
      cases nx <;> simp only at h1 <;> simp only [runx]
      case value u => obtain ⟨rfl, rfl⟩ := h1; exact hK _ (Ext.refl _)
      case enter f args => obtain ⟨rfl, h1⟩ := h1; exact h1.mono fun e w'' ⟨he, hv⟩ => ⟨v, he, hK _ hv⟩
    | halt x w1 => simp only at h1
  · rw [if_neg (by simp [hw])]; exact hK _ (Ext.refl _)
theorem yx_put {o oj : Oper} {v u : Value} {a : Act} {w : World} (hs : ∀ cs b, o.op ≠ .select cs b) (h3 : ∀ d, oj.dst = some d → d ∉ o.looksAt ops) (h : yx P ops o v a w) : yx P ops o v (a.put oj.dst u) w := by
  unfold yx at h ⊢
  rw [wanted_put o a oj.dst u h3, execOp_put (ops := ops) o hs a oj.dst u h3]
  exact h
/-- While something ahead of the tail is to come, nothing of the tail is ready. -/
def Waits (ops : Array Oper) (k : Nat) : Prop := ∀ listed, HeadInv .any ops k listed → ∀ i, i < k → listed.getD i true = false → ∀ t, k ≤ t → t ∉ Region.ready .any ops listed
theorem waits_of {k : Nat} (h : ops.size ≤ k ∨ (Region.sinkB .any ops k = true ∧ Region.chainB .any ops k = true)) : Waits ops k := by
  intro listed inv i hi hun t ht hr
  rcases Nat.lt_or_ge k ops.size with hk | hk
  · rcases h with h | ⟨h1, h2⟩
    · omega
    · exact tail_waits h1 h2 hk inv _ i rfl hi hun t ht hr
  · obtain ⟨_, o, ho, _⟩ := mem_ready.1 hr
    have := (Array.getElem?_eq_some_iff.1 ho).1
    omega
theorem ready_chain {m k : Nat} {listed : Array Bool} (h : chainB ops m k listed = true) : ∀ j ∈ Region.ready .any ops listed, j = k := by
  intro j hj
  cases m with
  | zero => simp only [chainB, beq_iff_eq] at h; rw [h] at hj; cases hj
  | succ m => simp only [chainB, Bool.and_eq_true, beq_iff_eq] at h; rw [h.1] at hj; simpa using hj
theorem Y_base {k : Nat} {b b' : World} (hb : Ext b b') : ∀ (m : Nat) (listed : Array Bool) (a : Act) (w : World), Y P ops Q k b' m listed a w → Y P ops Q k b m listed a w
  | 0, _, _, _, h => h
  | m + 1, listed, a, w, h => ⟨h.1, fun w' hx i hi => by
      obtain ⟨o, ho, h1⟩ := h.2 w' hx i hi
      exact ⟨o, ho, opx_mono (fun a'' w'' ⟨e1, e2⟩ => ⟨hb.trans e1, Y_base hb m _ _ _ e2⟩) h1⟩⟩
theorem Y_first {b : World} {k i : Nat} {oi : Oper} {v : Value} (hw : Waits ops k) (hi : ops[i]? = some oi) (hik : i < k) (hsel : ∀ (j : Nat) (o : Oper) cs b, ops[j]? = some o → o.op ≠ .select cs b) :
    ∀ (m : Nat) (listed : Array Bool) (a : Act) (w : World), HeadInv .any ops k listed →
      (∀ j oj, ops[j]? = some oj → j ≠ i → listed.getD j true = false → (∀ e ∈ oj.after, Region.binds .any e = true → e.on ≠ i) → oi.apart ops oj = true) →
      i ∈ Region.ready .any ops listed → Ext b w → yx P ops oi v a b →
      Y P ops Q k b m (listed.setIfInBounds i true) (a.put oi.dst v) w → Y P ops Q k b (m + 1) listed a w := by
  intro m
  induction m with
  | zero =>
    intro listed a w inv hfree hr hb hy H
    refine ⟨fun h => (by rw [h] at hr; cases hr), fun w' hx j hj => ?_⟩
    have hji : j = i := by
      refine Decidable.byContradiction fun hne => ?_
      have := ready_chain H.1 j (ready_mono hj hne)
      subst this
      exact hw listed inv i hik (mem_ready.1 hr).1 j (Nat.le_refl _) hj
    subst hji
    exact ⟨oi, hi, opx_of_yx hy (hb.trans hx) fun w'' hx' => ⟨(hb.trans hx).trans hx', H.1, fun w3 h3 => H.2 w3 ((hx.trans hx').trans h3)⟩⟩
  | succ m ih =>
    intro listed a w inv hfree hr hb hy H
    refine ⟨fun h => (by rw [h] at hr; cases hr), fun w' hx j hj => ?_⟩
    by_cases hji : j = i
    · subst hji
      refine ⟨oi, hi, opx_of_yx hy (hb.trans hx) fun w'' hx' => ⟨(hb.trans hx).trans hx', H.1, fun w3 h3 => H.2 w3 ((hx.trans hx').trans h3)⟩⟩
    · obtain ⟨oj, hoj, h1⟩ := H.2 w' hx j (ready_mono hj hji)
      refine ⟨oj, hoj, ?_⟩
      obtain ⟨hjun, oj', hoj', hall⟩ := mem_ready.1 hj
      obtain rfl : oj = oj' := Option.some.inj (hoj.symm.trans hoj')
      have hnot : ∀ e ∈ oj.after, Region.binds .any e = true → e.on ≠ i := fun e he hb heq => by
        have h1 := hall e he hb
        have h0 := (mem_ready.1 hr).1
        rw [heq] at h1
        rcases Nat.lt_or_ge i listed.size with h' | h'
        · simp [h'] at h0 h1; rw [h0] at h1; cases h1
        · simp [Array.getElem?_eq_none h'] at h1
      obtain ⟨p1, p2, p3⟩ := Oper.apart_spec (hfree j oj hoj hji hjun hnot)
      have hsj := fun cs b => hsel j oj cs b hoj
      have hsi := fun cs b => hsel i oi cs b hi
      have hjk : j < k := by
        rcases Nat.lt_or_ge j k with h | h
        · exact h
        · exact absurd hj (hw listed inv i hik (mem_ready.1 hr).1 j h)
      have hfree' : ∀ k' ok, ops[k']? = some ok → k' ≠ i → (listed.setIfInBounds j true).getD k' true = false →
          (∀ e ∈ ok.after, Region.binds .any e = true → e.on ≠ i) → oi.apart ops ok = true := fun k' ok hk hki hun hno => by
        refine hfree k' ok hk hki ?_ hno
        by_cases hjk : j = k'
        · subst hjk; exact hjun
        · rw [getD_set_ne true hjk] at hun; exact hun
      have next : ∀ u w'', Ext b w'' → Y P ops Q k b m ((listed.setIfInBounds i true).setIfInBounds j true) ((a.put oi.dst v).put oj.dst u) w'' → Y P ops Q k b (m + 1) (listed.setIfInBounds j true) (a.put oj.dst u) w'' := by
        intro u w'' hx' hY
        refine ih (listed.setIfInBounds j true) (a.put oj.dst u) w'' (inv.set hj hjk) hfree' (ready_mono hr (Ne.symm hji)) hx' (yx_put hsi p3 hy) ?_
        rw [Array.setIfInBounds_comm _ _ hji, ← Act.put_comm a v u p2]
        exact hY
      unfold opx at h1 ⊢
      rw [wanted_put oj a oi.dst v p1, execOp_put (ops := ops) oj hsj a oi.dst v p1] at h1
      split
      · rename_i hw
        rw [if_pos hw] at h1
        generalize (execOp a.eval oj).run P w' = r at h1 ⊢
        cases r with
        | ok nx w1 =>
          cases nx <;> simp only [runx] at h1 ⊢
          case value u => exact ⟨h1.1, next _ _ h1.1 h1.2⟩
          case skip => exact ⟨h1.1, next _ _ h1.1 h1.2⟩
          case enter f args => exact h1.mono fun e w'' ⟨u, he, hu⟩ => ⟨u, he, hu.1, next _ _ hu.1 hu.2⟩
        | halt x w1 => simp only [runx] at h1
      · rename_i hw
        rw [if_neg hw] at h1
        exact ⟨h1.1, next _ _ h1.1 h1.2⟩
theorem blt_lt {i j : Nat} (h : Nat.blt i j = true) : i < j := by simpa [Nat.blt_eq] using h
theorem Y_of_X {k : Nat} (hw : Waits ops k) (hsel : ∀ (j : Nat) (o : Oper) cs b, ops[j]? = some o → o.op ≠ .select cs b) :
    ∀ (t : Tr) (listed : Array Bool) (b : World) (a : Act) (w : World), t.last = k → HeadInv .any ops k listed → chk ops t listed = true → Ext b w → X P ops Q t b a w → Y P ops Q k b t.count listed a w
  | .tail k', listed, b, a, w, hk, inv, hc, hb, h => by
    obtain rfl : k' = k := hk
    exact ⟨hc, h⟩
  | .q i t, listed, b, a, w, hk, inv, hc, hb, h => by
    simp only [chk, Bool.and_eq_true] at hc
    obtain ⟨⟨⟨c1, c2⟩, c3⟩, c4⟩ := hc
    obtain ⟨o, v, ho, hy, hX⟩ := h
    have hr : i ∈ Region.ready .any ops listed := by simpa using c1
    have hlt : i < k := by rw [← hk]; exact blt_lt c3
    exact Y_first hw ho hlt hsel t.count listed a w inv (fun j oj => Region.free_spec ho c2 j oj) hr hb hy (Y_of_X hw hsel t _ _ _ _ hk (inv.set hr hlt) c4 hb hX)
  | .h i t, listed, b, a, w, hk, inv, hc, hb, h => by
    simp only [chk, Bool.and_eq_true, beq_iff_eq] at hc
    obtain ⟨⟨c1, c3⟩, c4⟩ := hc
    obtain ⟨o, ho, hX⟩ := h
    have hr : i ∈ Region.ready .any ops listed := by simp [c1]
    have hlt : i < k := by rw [← hk]; exact blt_lt c3
    refine ⟨by simp [c1], fun w' hx j hj => ?_⟩
    obtain rfl : j = i := by simpa [c1] using hj
    exact ⟨o, ho, opx_mono (fun a'' w'' ⟨b', e0, e1, e2⟩ => ⟨e0.trans e1, Y_base e0 _ _ _ _ (Y_of_X hw hsel t _ b' _ _ hk (inv.set hr hlt) c4 e1 e2)⟩) (hX w' hx)⟩
  | .h2 i t j u, listed, b, a, w, hk, inv, hc, hb, h => by
    simp only [chk, Bool.and_eq_true, beq_iff_eq] at hc
    obtain ⟨⟨⟨⟨⟨⟨c1, c3⟩, c3'⟩, c5⟩, c6⟩, c4⟩, c4'⟩ := hc
    obtain ⟨⟨o, ho, hX⟩, ⟨o', ho', hX'⟩⟩ := h
    have hr : i ∈ Region.ready .any ops listed := by simp [c1]
    have hr' : j ∈ Region.ready .any ops listed := by simp [c1]
    have hlt : i < k := by rw [← hk]; exact blt_lt c3
    have hlt' : j < k := by rw [← hk]; exact blt_lt c3'
    have hk' : u.last = k := by rw [← c6]; exact hk
    refine ⟨by simp [c1], fun w' hx l hl => ?_⟩
    have hl' : l = i ∨ l = j := by simpa [c1] using hl
    rcases hl' with rfl | rfl
    · exact ⟨o, ho, opx_mono (fun a'' w'' ⟨b', e0, e1, e2⟩ => ⟨e0.trans e1, Y_base e0 _ _ _ _ (Y_of_X hw hsel t _ b' _ _ hk (inv.set hr hlt) c4 e1 e2)⟩) (hX w' hx)⟩
    · refine ⟨o', ho', opx_mono (fun a'' w'' ⟨b', e0, e1, e2⟩ => ⟨e0.trans e1, ?_⟩) (hX' w' hx)⟩
      have := Y_base e0 _ _ _ _ (Y_of_X hw hsel u _ b' _ _ hk' (inv.set hr' hlt') c4' e1 e2)
      show Y P ops Q k b t.count _ _ _
      rw [c5]; exact this
  | .h3 i t j u m v, listed, b, a, w, hk, inv, hc, hb, h => by
    simp only [chk, Bool.and_eq_true, beq_iff_eq] at hc
    obtain ⟨⟨⟨⟨⟨⟨⟨⟨⟨⟨c1, c3⟩, c3'⟩, c3''⟩, c5⟩, c6⟩, c7⟩, c8⟩, c4⟩, c4'⟩, c4''⟩ := hc
    obtain ⟨⟨o, ho, hX⟩, ⟨o', ho', hX'⟩, ⟨o'', ho'', hX''⟩⟩ := h
    have hr : i ∈ Region.ready .any ops listed := by simp [c1]
    have hr' : j ∈ Region.ready .any ops listed := by simp [c1]
    have hr'' : m ∈ Region.ready .any ops listed := by simp [c1]
    have hlt : i < k := by rw [← hk]; exact blt_lt c3
    have hlt' : j < k := by rw [← hk]; exact blt_lt c3'
    have hlt'' : m < k := by rw [← hk]; exact blt_lt c3''
    have hk' : u.last = k := by rw [← c6]; exact hk
    have hk'' : v.last = k := by rw [← c8]; exact hk
    refine ⟨by simp [c1], fun w' hx l hl => ?_⟩
    have hl' : l = i ∨ l = j ∨ l = m := by simpa [c1] using hl
    rcases hl' with rfl | rfl | rfl
    · exact ⟨o, ho, opx_mono (fun a'' w'' ⟨b', e0, e1, e2⟩ => ⟨e0.trans e1, Y_base e0 _ _ _ _ (Y_of_X hw hsel t _ b' _ _ hk (inv.set hr hlt) c4 e1 e2)⟩) (hX w' hx)⟩
    · refine ⟨o', ho', opx_mono (fun a'' w'' ⟨b', e0, e1, e2⟩ => ⟨e0.trans e1, ?_⟩) (hX' w' hx)⟩
      have := Y_base e0 _ _ _ _ (Y_of_X hw hsel u _ b' _ _ hk' (inv.set hr' hlt') c4' e1 e2)
      show Y P ops Q k b t.count _ _ _
      rw [c5]; exact this
    · refine ⟨o'', ho'', opx_mono (fun a'' w'' ⟨b', e0, e1, e2⟩ => ⟨e0.trans e1, ?_⟩) (hX'' w' hx)⟩
      have := Y_base e0 _ _ _ _ (Y_of_X hw hsel v _ b' _ _ hk'' (inv.set hr'' hlt'') c4'' e1 e2)
      show Y P ops Q k b t.count _ _ _
      rw [c7]; exact this
theorem wpAny_of_chain : ∀ (m k : Nat) (listed : Array Bool) (a : Act) (w : World), chainB ops m k listed = true → wpOps P ops Q (List.range' k m) a w → wpAny P .any ops Q m listed a w
  | 0, k, listed, a, w, h, hw => by
    simp only [chainB, beq_iff_eq] at h
    exact ⟨h, by simpa [wpOps] using hw⟩
  | m + 1, k, listed, a, w, h, hw => by
    simp only [chainB, Bool.and_eq_true, beq_iff_eq] at h
    refine wpAny_all h.1 (by simp) fun i hi => ?_
    obtain rfl : i = k := by simpa using hi
    rw [List.range'_succ, wpOps_cons] at hw
    exact wpOp_mono (fun a' w' h' => wpAny_of_chain m (i + 1) _ a' w' h.2 h') hw
theorem wpAny_of_Y {k : Nat} {b : World} : ∀ (m : Nat) (listed : Array Bool) (a : Act) (w : World), Y P ops Q k b m listed a w → wpAny P .any ops Q (m + (ops.size - k)) listed a w
  | 0, listed, a, w, h => by rw [Nat.zero_add]; exact wpAny_of_chain _ k listed a w h.1 (h.2 w (Ext.refl w))
  | m + 1, listed, a, w, h => by
    rw [show m + 1 + (ops.size - k) = (m + (ops.size - k)) + 1 by omega]
    refine ⟨fun h0 => absurd h0 h.1, fun i hi => ?_⟩
    obtain ⟨o, ho, hx⟩ := h.2 w (Ext.refl w) i hi
    exact wpOp_of_opx ho (opx_mono (fun a' w' h' => wpAny_of_Y m _ a' w' h'.2) hx)
theorem headInv_start (k : Nat) : HeadInv .any ops k (Array.replicate ops.size false) :=
  ⟨by simp, (fun j oj _ hl => by rw [getD_replicate_false] at hl; cases hl), fun t _ ht => by simp [ht]⟩
def chkAll (l : List Oper) (t : Tr) : Bool :=
  Region.noSelect l.toArray && (Nat.ble l.length t.last || (Region.sinkB .any l.toArray t.last && Region.chainB .any l.toArray t.last)) && chk l.toArray t (Array.replicate l.length false) && Nat.beq (t.count + (l.length - t.last)) l.length
theorem drawn_world {w : World} : Ext w { w with drawn := w.drawn + 1 } := ⟨⟨rfl, rfl, rfl, Nat.le_refl _, fun _ _ => rfl⟩⟩
theorem wp_drawn {id : Nat} {l : List Oper} {a : Act} {w : World} (t : Tr) (hm : P.follows .mixedOrders = true) (hc : chkAll l t = true) (h : X P l.toArray Q t { w with drawn := w.drawn + 1 } a { w with drawn := w.drawn + 1 }) : (Code.region id l.toArray true).wp P Q a w := by
  simp only [chkAll, Bool.and_eq_true, Bool.or_eq_true] at hc
  obtain ⟨⟨⟨c1, c2⟩, c3⟩, c4⟩ := hc
  have hw : Waits l.toArray t.last := waits_of (by
    rcases c2 with c2 | c2
    · left; simpa [Nat.ble_eq] using c2
    · right; exact c2)
  have hlen := Nat.eq_of_beq_eq_true c4
  have hY := Y_of_X hw (Region.noSelect_spec c1) t (Array.replicate l.toArray.size false) _ a _ rfl (headInv_start _) (by simpa using c3) (Ext.refl _) h
  have := wpAny_of_Y _ _ _ _ hY
  refine wp_region_any hm ?_
  have e : t.count + (l.toArray.size - t.last) = l.toArray.size := by simpa using hlen
  rw [e] at this
  exact this
end
/-! ### The same on live slots -/
def nthO : List Oper → Nat → Option Oper
  | [], _ => none
  | o :: _, 0 => some o
  | _ :: l, i + 1 => nthO l i
theorem nthO_eq : ∀ (l : List Oper) (i : Nat), nthO l i = l[i]?
  | [], _ => rfl
  | _ :: _, 0 => rfl
  | _ :: l, i + 1 => by simpa [nthO] using nthO_eq l i
def dropO : Nat → List Oper → List Oper
  | 0, l => l
  | _ + 1, [] => []
  | k + 1, _ :: l => dropO k l
theorem dropO_eq : ∀ (k : Nat) (l : List Oper), dropO k l = l.drop k
  | 0, _ => by simp [dropO]
  | _ + 1, [] => by simp [dropO]
  | k + 1, _ :: l => by simpa [dropO] using dropO_eq k l
def D (P : Program) (n : Sz) (l : List Oper) (Q : Exit → Act → World → Prop) (t : Tr) (L : Env) (w : World) : Prop := ∀ a, Fr n a L → X P l.toArray Q t w a w
/-- The same, looking at an older world. -/
def DB (P : Program) (n : Sz) (l : List Oper) (Q : Exit → Act → World → Prop) (t : Tr) (L : Env) (b w : World) : Prop := ∀ a, Fr n a L → X P l.toArray Q t b a w
/-- An operation that yields this value in every later world. -/
def RunsAt (P : Program) (L : Env) (w : World) (op : Op) (ty : TypeId) (v : Value) : Prop :=
  ∀ w', Ext w w' → ∀ ρ, Rho L ρ → ∀ dst pos af g, (execOp ρ ⟨dst, op, ty, pos, af, g⟩).run P w' = .ok (.value v) w'
section
variable {P : Program} {n : Sz} {l : List Oper} {Q : Exit → Act → World → Prop} {L : Env} {w : World} {t u : Tr} {i j : Nat}
  {d : Nat} {op : Op} {ty : TypeId} {pos : String} {af : Array Edge} {y : Code}
theorem W_drawn {id : Nat} (t : Tr) (hm : P.follows .mixedOrders = true) (hc : chkAll l t = true) (h : D P n l Q t L { w with drawn := w.drawn + 1 }) : W P n (.region id l.toArray true) Q L w :=
  fun a fr => wp_drawn t hm hc (h a fr)
theorem W_seqd {id : Nat} (t : Tr) (hm : P.follows .mixedOrders = true) (hc : chkAll l t = true) (h : ∀ w', Ext w w' → D P n l (seqQ P y Q) t L w') : W P n (.seq (.region id l.toArray true) y) Q L w :=
  W_seq (W_drawn t hm hc (h _ drawn_world))
theorem W_regd {id : Nat} (t : Tr) (hm : P.follows .mixedOrders = true) (hc : chkAll l t = true) (h : ∀ w', Ext w w' → D P n l Q t L w') : W P n (.region id l.toArray true) Q L w :=
  W_drawn t hm hc (h _ drawn_world)
theorem D_v {v : Value} (hr : RunsAt P L w op ty v) (ho : nthO l i = some ⟨some d, op, ty, pos, af, none⟩) (hn : Nat.blt d n.n = true) (h : D P n l Q t ((d, v) :: L) w) : D P n l Q (.q i t) L w := fun a fr => by
  refine ⟨_, v, by rw [nthO_eq] at ho; simpa using ho, .inl ⟨by simp [Region.wanted], fun w' hx => ?_⟩, h _ (fr.put hn)⟩
  rw [hr w' hx _ fr.rho]
  exact ⟨rfl, rfl⟩
/-- Under a guard that says yes. -/
theorem D_vg {v : Value} {j : Nat} {want b : Bool} {s : Nat} {oj : Oper} (hr : RunsAt P L w op ty v) (ho : nthO l i = some ⟨some d, op, ty, pos, af, some (j, want)⟩) (hj : nthO l j = some oj) (hd : oj.dst = some s) (hb : gt L s = some (.bool b)) (hw : b = want) (hn : Nat.blt d n.n = true)
    (h : D P n l Q t ((d, v) :: L) w) : D P n l Q (.q i t) L w := fun a fr => by
  have hj' : l.toArray[j]? = some oj := by rw [nthO_eq] at hj; simpa using hj
  have hy : yielded l.toArray a.tmps j = some b := by simp only [yielded, hj', Option.bind_some, hd, fr.get s _ hb]
  refine ⟨_, v, by rw [nthO_eq] at ho; simpa using ho, .inl ⟨by simp [Region.wanted, hy, hw], fun w' hx => ?_⟩, h _ (fr.put hn)⟩
  rw [hr w' hx _ fr.rho]
  exact ⟨rfl, rfl⟩
/-- Under a guard that says no. -/
theorem D_no {j : Nat} {want b : Bool} {s : Nat} {oj : Oper} (ho : nthO l i = some ⟨some d, op, ty, pos, af, some (j, want)⟩) (hj : nthO l j = some oj) (hd : oj.dst = some s) (hb : gt L s = some (.bool b)) (hw : b = !want) (hn : Nat.blt d n.n = true)
    (h : D P n l Q t ((d, undef) :: L) w) : D P n l Q (.q i t) L w := fun a fr => by
  have hj' : l.toArray[j]? = some oj := by rw [nthO_eq] at hj; simpa using hj
  have hy : yielded l.toArray a.tmps j = some b := by simp only [yielded, hj', Option.bind_some, hd, fr.get s _ hb]
  exact ⟨_, undef, by rw [nthO_eq] at ho; simpa using ho, .inr ⟨by simp [Region.wanted, hy, hw], rfl⟩, h _ (fr.put hn)⟩
theorem D_no2 {j : Nat} {want : Bool} {s : Nat} {oj : Oper} (ho : nthO l i = some ⟨some d, op, ty, pos, af, some (j, want)⟩) (hj : nthO l j = some oj) (hd : oj.dst = some s) (hb : gt L s = some undef) (hn : Nat.blt d n.n = true)
    (h : D P n l Q t ((d, undef) :: L) w) : D P n l Q (.q i t) L w := fun a fr => by
  have hj' : l.toArray[j]? = some oj := by rw [nthO_eq] at hj; simpa using hj
  have hy : yielded l.toArray a.tmps j = none := by simp only [yielded, hj', Option.bind_some, hd, fr.get s _ hb, undef]
  exact ⟨_, undef, by rw [nthO_eq] at ho; simpa using ho, .inr ⟨by simp [Region.wanted, hy], rfl⟩, h _ (fr.put hn)⟩
theorem RunsAt_pu {v : Value} (h : pu L op = some v) : RunsAt P L w op ty v := fun _ _ ρ hρ dst pos af _ => pu_run (dst := dst) (pos := pos) (af := af) h ρ hρ
def puD (n : Sz) (l : List Oper) : Nat → Tr → Env → Option (Tr × Env)
  | 0, t, L => some (t, L)
  | k + 1, .q i t, L => match nthO l i with
    | some ⟨some d, op, _, _, _, none⟩ => match pu L op with
      | some v => bif Nat.blt d n.n then puD n l k t ((d, v) :: L) else none
      | none => none
    | _ => none
  | _ + 1, _, _ => none
/-- Some operations at once that only compute. -/
theorem D_pu : ∀ (k : Nat) {t t' : Tr} {L L' : Env}, puD n l k t L = some (t', L') → D P n l Q t' L' w → D P n l Q t L w
  | 0, t, t', L, L', h, hD => by simp only [puD, Option.some.injEq, Prod.mk.injEq] at h; obtain ⟨rfl, rfl⟩ := h; exact hD
  | k + 1, .tail _, t', L, L', h, hD => by simp only [puD, reduceCtorEq] at h
  | k + 1, .h _ _, t', L, L', h, hD => by simp only [puD, reduceCtorEq] at h
  | k + 1, .h2 _ _ _ _, t', L, L', h, hD => by simp only [puD, reduceCtorEq] at h
  | k + 1, .h3 _ _ _ _ _ _, t', L, L', h, hD => by simp only [puD, reduceCtorEq] at h
  | k + 1, .q i t, t', L, L', h, hD => by
    simp only [puD] at h
    split at h
    · rename_i d op ty pos af ho
      split at h
      · rename_i v hv
        cases hd : Nat.blt d n.n with
        | false => rw [hd] at h; cases h
        | true => rw [hd] at h; exact D_v (RunsAt_pu hv) ho hd (D_pu k h hD)
      · cases h
    · cases h
/-- A call whose value is the same in every later world. -/
theorem D_call {f : FuncId} {args : List Operand} {vs : List Value} {at_ : Array TypeId} {v : Value} (ho : nthO l i = some ⟨some d, .call ⟨.value (.func f), args.toArray, at_⟩, ty, pos, af, none⟩) (ha : evl L args = some vs) (hn : Nat.blt d n.n = true)
    (hok : ∀ w', Ext w w' → Ok P f vs w' (fun u w'' => Ext w' w'' ∧ u = v)) (h : D P n l Q t ((d, v) :: L) w) : D P n l Q (.q i t) L w := fun a fr => by
  refine ⟨_, v, by rw [nthO_eq] at ho; simpa using ho, .inl ⟨by simp [Region.wanted], fun w' hx => ?_⟩, h _ (fr.put hn)⟩
  rw [run_call (hok w' hx).1 ha _ fr.rho]
  exact ⟨rfl, (hok w' hx).2.mono fun e w'' ⟨u, he, hx', hu⟩ => ⟨by rw [he, hu], hx'⟩⟩
theorem D_callg {f : FuncId} {args : List Operand} {vs : List Value} {at_ : Array TypeId} {v : Value} {j : Nat} {want b : Bool} {s : Nat} {oj : Oper} (ho : nthO l i = some ⟨some d, .call ⟨.value (.func f), args.toArray, at_⟩, ty, pos, af, some (j, want)⟩)
    (hj : nthO l j = some oj) (hd : oj.dst = some s) (hb : gt L s = some (.bool b)) (hw : b = want) (ha : evl L args = some vs) (hn : Nat.blt d n.n = true)
    (hok : ∀ w', Ext w w' → Ok P f vs w' (fun u w'' => Ext w' w'' ∧ u = v)) (h : D P n l Q t ((d, v) :: L) w) : D P n l Q (.q i t) L w := fun a fr => by
  have hj' : l.toArray[j]? = some oj := by rw [nthO_eq] at hj; simpa using hj
  have hy : yielded l.toArray a.tmps j = some b := by simp only [yielded, hj', Option.bind_some, hd, fr.get s _ hb]
  refine ⟨_, v, by rw [nthO_eq] at ho; simpa using ho, .inl ⟨by simp [Region.wanted, hy, hw], fun w' hx => ?_⟩, h _ (fr.put hn)⟩
  have hrun := run_call (P := P) (w := w') (ty := ty) (pos := pos) (af := af) (at_ := at_) (dst := some d) (hok w' hx).1 ha _ fr.rho
  have e : execOp a.eval ⟨some d, .call ⟨.value (.func f), args.toArray, at_⟩, ty, pos, af, some (j, want)⟩ = execOp a.eval ⟨some d, .call ⟨.value (.func f), args.toArray, at_⟩, ty, pos, af, none⟩ := rfl
  rw [e, hrun]
  exact ⟨rfl, (hok w' hx).2.mono fun e w'' ⟨u, he, hx', hu⟩ => ⟨by rw [he, hu], hx'⟩⟩
/-- A call that makes memory, in its place. -/
theorem D_hcall {f : FuncId} {args : List Operand} {vs : List Value} {at_ : Array TypeId} {R : World → Value → World → Prop} (ho : nthO l i = some ⟨some d, .call ⟨.value (.func f), args.toArray, at_⟩, ty, pos, af, none⟩) (ha : evl L args = some vs) (hn : Nat.blt d n.n = true)
    (hok : ∀ w', Ext w w' → Ok P f vs w' (fun u w'' => Ext w' w'' ∧ R w' u w'')) (h : ∀ w' v w'', Ext w w' → Ext w' w'' → R w' v w'' → D P n l Q t ((d, v) :: L) w'') : D P n l Q (.h i t) L w := fun a fr => by
  refine ⟨_, by rw [nthO_eq] at ho; simpa using ho, fun w' hx => ?_⟩
  unfold opx
  rw [if_pos (by simp [Region.wanted]), run_call (hok w' hx).1 ha _ fr.rho]
  exact (hok w' hx).2.mono fun e w'' ⟨v, he, h1, h2⟩ => ⟨v, he, w'', hx.trans h1, Ext.refl _, h w' v w'' hx h1 h2 _ (fr.put hn)⟩
/-- An operation that makes memory, in its place. -/
theorem D_hop {R : World → Value → World → Prop} (ho : nthO l i = some ⟨some d, op, ty, pos, af, none⟩) (hn : Nat.blt d n.n = true)
    (hok : ∀ w', Ext w w' → ∀ ρ, Rho L ρ → ∃ v w'', (execOp ρ ⟨some d, op, ty, pos, af, none⟩).run P w' = .ok (.value v) w'' ∧ Ext w' w'' ∧ R w' v w'') (h : ∀ w' v w'', Ext w w' → Ext w' w'' → R w' v w'' → D P n l Q t ((d, v) :: L) w'') : D P n l Q (.h i t) L w := fun a fr => by
  refine ⟨_, by rw [nthO_eq] at ho; simpa using ho, fun w' hx => ?_⟩
  obtain ⟨v, w'', hrun, h1, h2⟩ := hok w' hx _ fr.rho
  unfold opx
  rw [if_pos (by simp [Region.wanted]), hrun]
  exact ⟨w'', hx.trans h1, Ext.refl _, h w' v w'' hx h1 h2 _ (fr.put hn)⟩
theorem D_h2 (h1 : D P n l Q (.h i t) L w) (h2 : D P n l Q (.h j u) L w) : D P n l Q (.h2 i t j u) L w := fun a fr => ⟨h1 a fr, h2 a fr⟩
theorem D_tail {k : Nat} (h : ∀ w', Ext w w' → S P n l.toArray Q (dropO k l) L w') : D P n l Q (.tail k) L w := fun a fr => fun w' hx => by
  have := h w' hx a fr
  rw [dropO_eq] at this
  have e := wpOps_eq_wpList (P := P) (ops := l.toArray) (Q := Q) (l.drop k) k (fun j => by simp)
  rw [List.length_drop] at e
  show wpOps P l.toArray Q (List.range' k (l.toArray.size - k)) a w'
  rw [List.size_toArray, e]
  exact this
/-- A bool parts the ways. -/
theorem D_split {s : Nat} {b : Bool} (_hb : gt L s = some (.bool b)) (h1 : b = true → D P n l Q t L w) (h2 : b = false → D P n l Q t L w) : D P n l Q t L w := by
  cases b
  · exact h2 rfl
  · exact h1 rfl
theorem S_split {ops : Array Oper} {rest : List Oper} {s : Nat} {b : Bool} (_hb : gt L s = some (.bool b)) (h1 : b = true → S P n ops Q rest L w) (h2 : b = false → S P n ops Q rest L w) : S P n ops Q rest L w := by
  cases b
  · exact h2 rfl
  · exact h1 rfl
theorem r_pickT {c x y : Operand} {b : Bool} {v : Value} (hc : ev L c = some (.bool b)) (hb : b = true) (hx : ev L x = some v) : RunsAt P L w (.pick c x y) ty v := fun w' _ ρ hρ dst pos af g => by
  subst hb; simp [execOp, hρ c _ hc, hρ x _ hx, asBool]
theorem r_pickF {c x y : Operand} {b : Bool} {v : Value} (hc : ev L c = some (.bool b)) (hb : b = false) (hx : ev L y = some v) : RunsAt P L w (.pick c x y) ty v := fun w' _ ρ hρ dst pos af g => by
  subst hb; simp [execOp, hρ c _ hc, hρ y _ hx, asBool]
theorem S_v {ops : Array Oper} {rest : List Oper} {v : Value} (hr : RunsAt P L w op ty v) (hn : Nat.blt d n.n = true) (h : S P n ops Q rest ((d, v) :: L) w) : S P n ops Q (⟨some d, op, ty, pos, af, none⟩ :: rest) L w :=
  S_value rfl rfl hn (fun ρ hρ => hr w (Ext.refl w) ρ hρ _ _ _ _) h
end
end Go.E
