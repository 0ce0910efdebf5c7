/- From what arguments read as to the lists that lie in their memory, and back behind the call; no program in sight. -/
import Derived.Test.YtdiieblgeaehpaaGreatDoorEngH
import Derived.ProofKit
import Derived.OpenShut
import Derived.Carry
import Derived.Test.YtdiieblgeaehpaaGreatDoorEngM
import Derived.Deep.Slices
namespace Go.E
open Go Go.RowKit Go.ChangeShapes Go.WideShapes
section
variable {H : Type} {enc : TypeId × Value → H} {P : Program} {w : World} {base : Nat} {spare : Nat → Bool} {held : Bool}
theorem wf_u8 {n : Int} (h : (Lit.int .u8 n).wf = true) : 0 ≤ n ∧ n ≤ 255 := by
  simpa [Lit.wf, IntKind.min, IntKind.max, IntKind.signed, IntKind.bits] using h
theorem wf_i64 {n : Int} (h : (Lit.int .i64 n).wf = true) : -9223372036854775808 ≤ n ∧ n ≤ 9223372036854775807 := by
  simpa [Lit.wf, IntKind.min, IntKind.max, IntKind.signed, IntKind.bits] using h
/-- Arguments read, behind a call that leaves old memory as it was, as they read before. -/
theorem trodAll_stays (hl : laidOutB P = true) {W W' : World} (hb : Below W.heap.size W W') : ∀ {ts : List TypeId} {vs : List Value} {ds : List (DataW H)} {ps : List MemPlace}, (∀ t ∈ ts, P.readableRec t = true ∧ t < P.types.size) →
    DataW.TrodAll enc P W 0 (fun _ => true) true ts vs ds ps → (∀ x ∈ ps, x.block < W.heap.size) → DataW.TrodAll enc P W' 0 (fun b => decide (b < W.heap.size)) true ts vs ds ps
  | [], [], [], ps, _, h, _ => h
  | t :: ts, v :: vs, d :: ds, ps, ht, h, hlt => by
    obtain ⟨p, q, h1, h2, rfl⟩ := h
    have ht0 := ht t (.head _)
    exact ⟨p, q, Below.trod hl ht0.1 ht0.2 h1 hb (fun x hx => hlt x (List.mem_append.2 (.inl hx))), trodAll_stays hl hb (fun t' h' => ht t' (.tail _ h')) h2 (fun x hx => hlt x (List.mem_append.2 (.inr hx))), rfl⟩
  | [], [], _ :: _, _, _, h, _ => by cases h
  | [], _ :: _, _, _, _, h, _ => by cases h
  | _ :: _, [], _, _, _, h, _ => by cases h
  | _ :: _, _ :: _, [], _, _, h, _ => by cases h
end
end Go.E
namespace Go.E
open Go Go.RowKit Go.ChangeShapes Go.WideShapes Go.Deep
/-- What is read at a type lies in memory as plain data, of which something holds. -/
def Reads (P : Program) (t : TypeId) {α : Type} (r : Rp α) (ok : α → Prop) : Prop :=
  ∀ {H : Type} {enc : TypeId × Value → H} {w : World} {base : Nat} {spare : Nat → Bool} {held : Bool} {fuel : Nat} {cs : List Value} {x : DataW H × List MemPlace},
    DataW.trod enc P w base spare held fuel t cs = some x → ∃ a, r.rel (hp w) a cs ∧ ok a
section
variable {P : Program} {t e : TypeId}
theorem reads_i64 (ht : P.underlying t = some (.int .i64)) : Reads P t (.int .i64) (fun n => Go.L.I64 n) := fun h => by
  obtain ⟨n, rfl, _, hw⟩ := DataW.trod_int ht h
  exact ⟨n, rfl, wf_i64 hw⟩
theorem reads_byte (ht : P.underlying t = some (.int .u8)) : Reads P t .byte (fun _ => True) := fun h => by
  obtain ⟨n, rfl, _, hw⟩ := DataW.trod_int ht h
  have hw' := wf_u8 hw
  refine ⟨Go.L.u8 n, ?_, trivial⟩
  show [_] = [_]
  rw [Go.L.u8_toNat, Int.emod_eq_of_lt (by omega) (by omega)]
theorem reads_bool (ht : P.underlying t = some .bool) : Reads P t .bool (fun _ => True) := fun h => by
  obtain ⟨n, rfl, _⟩ := DataW.trod_bool ht h
  exact ⟨n, rfl, trivial⟩
theorem reads_str (ht : P.underlying t = some .string) : Reads P t .st (fun l => l.length ≤ 9223372036854775807) := fun h => by
  obtain ⟨s, rfl, _, hs⟩ := DataW.trod_string ht h
  refine ⟨s.data.toList, ?_, ?_⟩
  · show [_] = [_]
    simp
  · show s.data.toList.length ≤ _
    rw [Array.length_toList]; exact hs
theorem reads_slice {α : Type} {r : Rp α} {ok : α → Prop} (ht : P.underlying t = some (.slice e)) (hc : P.cellsOf e = r.sz) (hsz : 0 < r.sz) (hr : Reads P e r ok) : Reads P t (.vec r) (fun l => l.length ≤ 9223372036854775807 ∧ ∀ x ∈ l, ok x) := fun {H enc w base spare held fuel cs x} h => by
  rcases open_slice ht h with ⟨rfl, _⟩ | ⟨a, len, cap, m, n, D, Pl, rfl, hb, hl, hm, rfl, _, hel⟩
  · exact ⟨[], ⟨_, rfl, Vec.nil _ _⟩, by simp, by simp⟩
  · have hm2 : len ≤ (if spare a.block then cap else len) := by split <;> omega
    have hx : ∀ i, i < len → ∃ y, ok y ∧ ∃ c, r.rel (hp w) y c ∧ w.cells? base (a.add (i * r.sz)) r.sz = some c := fun i hi => by
      obtain ⟨cs', h1, h2⟩ := hel i (by omega)
      obtain ⟨y, h3, h4⟩ := hr h2
      rw [hc] at h1
      exact ⟨y, h4, cs', h3, h1⟩
    have key : ∀ k, k ≤ len → ∃ l : List α, l.length = k ∧ (∀ x ∈ l, ok x) ∧ ∀ i y, l[i]? = some y → ∃ c, r.rel (hp w) y c ∧ w.cells? base (a.add (i * r.sz)) r.sz = some c := by
      intro k
      induction k with
      | zero => intro _; exact ⟨[], rfl, by simp, by simp⟩
      | succ k ih =>
        intro hk
        obtain ⟨l, h1, h2, h3⟩ := ih (by omega)
        obtain ⟨y, h4, c, h5, h6⟩ := hx k (by omega)
        refine ⟨l ++ [y], by simp [h1], fun z hz => ?_, fun i z hz => ?_⟩
        · rcases List.mem_append.1 hz with hz | hz
          · exact h2 z hz
          · simp at hz; subst hz; exact h4
        · rcases Nat.lt_or_ge i l.length with hi | hi
          · rw [List.getElem?_append_left hi] at hz; exact h3 i z hz
          · rw [List.getElem?_append_right hi] at hz
            have hi0 : i - l.length = 0 := by
              have := (List.getElem?_eq_some_iff.1 hz).1
              simp at this; omega
            rw [hi0] at hz
            simp at hz
            subst hz
            obtain rfl : i = k := by omega
            exact ⟨c, h5, h6⟩
    obtain ⟨l, h1, h2, h3⟩ := key len (Nat.le_refl _)
    have hlm : len ≤ 9223372036854775807 := by unfold maxLen at hm; omega
    refine ⟨l, ⟨_, rfl, some a, cap, by rw [h1], by omega, hm, (fun h => by cases h), fun A hA hne => ?_⟩, by omega, h2⟩
    cases hA
    have cell : ∀ i y, l[i]? = some y → ∃ c, r.rel (hp w) y c ∧ ∀ j u, c[j]? = some u → w.cell? ((a.add (i * r.sz)).add j) = some u := fun i y hy => by
      obtain ⟨c, h4, h5⟩ := h3 i y hy
      obtain ⟨_, hlen, hcell⟩ := World.cells?_some h5
      exact ⟨c, h4, fun j u hu => by rw [← hu]; exact hcell j (by rw [← hlen]; exact (List.getElem?_eq_some_iff.1 hu).1)⟩
    have hspot : a.spot = none := by
      obtain ⟨y, l', rfl⟩ := List.exists_cons_of_ne_nil hne
      obtain ⟨c, h4, h5⟩ := cell 0 y rfl
      have hc0 : 0 < c.length := by rw [r.len h4]; omega
      have := World.cell?_spot (h5 0 _ (List.getElem?_eq_getElem hc0))
      simpa [Addr.add] using this
    refine ⟨hspot, fun i y hy => ?_⟩
    obtain ⟨c, h4, h5⟩ := cell i y hy
    refine ⟨c, h4, fun j u hu => ?_⟩
    rw [← addr_add_add hspot]
    exact h5 j u hu
/-- The fields of a struct, from some place on. -/
def FReads (P : Program) (fs : List Field) (off : Nat) {α : Type} (r : Rp α) (ok : α → Prop) : Prop :=
  ∀ {H : Type} {enc : TypeId × Value → H} {w : World} {base : Nat} {spare : Nat → Bool} {held : Bool} {fuel : Nat} {cs : List Value},
    (∀ f ∈ fs, ∃ y : DataW H × List MemPlace, DataW.trod enc P w base spare held fuel f.type ((cs.drop f.offset).take (P.cellsOf f.type)) = some y) → ∃ a, r.rel (hp w) a ((cs.drop off).take r.sz) ∧ ok a
theorem freads_one {f : Field} {α : Type} {r : Rp α} {ok : α → Prop} {off : Nat} (hr : Reads P f.type r ok) (ho : f.offset = off) (hc : P.cellsOf f.type = r.sz) : FReads P [f] off r ok := fun h => by
  obtain ⟨y, hy⟩ := h f (.head _)
  rw [ho, hc] at hy
  exact hr hy
theorem freads_cons {f : Field} {fs : List Field} {α β : Type} {r : Rp α} {s : Rp β} {ok : α → Prop} {ok' : β → Prop} {off : Nat} (hr : Reads P f.type r ok) (ho : f.offset = off) (hc : P.cellsOf f.type = r.sz) (hs : FReads P fs (off + r.sz) s ok') : FReads P (f :: fs) off (.pair r s) (fun x => ok x.1 ∧ ok' x.2) := fun {H enc w base spare held fuel cs} h => by
  obtain ⟨y, hy⟩ := h f (.head _)
  rw [ho, hc] at hy
  obtain ⟨a, h1, h2⟩ := hr hy
  obtain ⟨b, h3, h4⟩ := hs (cs := cs) (fun g hg => h g (.tail _ hg))
  refine ⟨(a, b), ⟨_, _, ?_, h1, h3⟩, h2, h4⟩
  show (cs.drop off).take (r.sz + s.sz) = _
  rw [List.take_add, List.drop_drop]
theorem reads_struct {fs : Array Field} {α : Type} {r : Rp α} {ok : α → Prop} (ht : P.underlying t = some (.struct fs)) (hc : P.cellsOf t = r.sz) (hf : FReads P fs.toList 0 r ok) : Reads P t r ok := fun h => by
  obtain ⟨xs, n, _, _, hl, hlen, hfs⟩ := DataW.trod_struct ht h
  obtain ⟨a, h1, h2⟩ := hf (fun f hf' => by
    obtain ⟨i, hi, rfl⟩ := List.getElem_of_mem hf'
    have hi' : i < fs.size := by simpa using hi
    have := hfs i fs[i] (by simp)
    refine ⟨xs[i]'(by omega), ?_⟩
    rw [List.getElem?_eq_getElem (by omega)] at this
    simpa using this)
  rw [List.drop_zero, List.take_of_length_le (by rw [hl, hc]; exact Nat.le_refl _)] at h1
  exact ⟨a, h1, h2⟩
end
end Go.E
