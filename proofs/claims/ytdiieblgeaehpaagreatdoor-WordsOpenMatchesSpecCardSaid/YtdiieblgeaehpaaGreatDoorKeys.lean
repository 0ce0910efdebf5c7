/- maps.Keys and slices.Sorted by the shelf's contracts: the keys of a map that lies fast, in order. -/
import Derived.Test.YtdiieblgeaehpaaGreatDoorShelf
import Derived.Test.YtdiieblgeaehpaaGreatDoorEngX
import Derived.Test.YtdiieblgeaehpaaGreatDoorFacts
namespace Go.Proofs.YtdiieblgeaehpaaGreatDoor
open Go Go.E Go.RowKit Go.Shelf Go.Maps Go.Sort Go.WideElems Go.MapKept

abbrev rpH : Rp (Int × Int) := .pair (.int .i64) (.int .i64)
abbrev KMap (H : PH) (v : Value) (l : List (List UInt8 × List (Int × Int))) : Prop := VMap encS (.vec rpH) H v l
def IterK (H : PH) (v : Value) (l : List (List UInt8 × List (Int × Int))) : Prop := ∃ b u, v = .func (.func 88) #[] #[.pointer (some ⟨b, 0, none⟩)] ∧ H b = some (.cells #[u] 98 (0, 0)) ∧ KMap H u l
theorem IterK.mono {H H' : PH} {v : Value} {l : List (List UInt8 × List (Int × Int))} (h : IterK H v l) (hs : Le H H') : IterK H' v l := by
  obtain ⟨b, u, h1, h2, h3⟩ := h
  exact ⟨b, u, h1, hs _ _ h2, h3.mono hs⟩

theorem keys_ok (w : World) (H : PH) (hH : Le H (hp w)) {v : Value} {l : List (List UInt8 × List (Int × Int))} (hm : KMap H v l) : Ok Tryz.prog 67 [v] w (fun v' w' => Ext w w' ∧ IterK (un H (nw w w')) v' l) := by
  obtain ⟨b, vs, rfl, h⟩ := id hm
  have hc : CallsIn Fence.wide 5 Tryz.prog 67 #[.map (some b)] w fun e w' => e = .returned (.func (.func 88) #[] #[.pointer (some ⟨w.heap.size, 0, none⟩)]) ∧ w' = w.alloc (.cells #[.map (some b)] 98) := AnyZ.keys_in Tryz.keysA Fence.wide 5 trivial rfl (some b) w
  refine ⟨⟨Tryz.f67, _, Tryz.func67, rfl, rfl⟩, (callsIn_wide.1 hc).mono fun e w' he => ?_⟩
  obtain ⟨rfl, rfl⟩ := he
  refine ⟨_, rfl, ext_alloc w _, w.heap.size, .map (some b), rfl, ?_, hm.mono (le_un_left hH)⟩
  refine le_un_right _ _ ?_
  unfold nw
  rw [if_pos (Nat.le_refl _)]
  exact World.alloc_heap_new w _

theorem mE_born {κ : Type} {enc : κ → Value} : ∀ (l : List κ) (vs : List Value) (i : Nat), l.length = vs.length → (mE enc i l vs).map (·.born) = List.range' i l.length
  | [], [], _, _ => rfl
  | a :: l, u :: vs, i, h => by
    simp only [mE, List.map_cons, List.length_cons, List.range'_succ]
    rw [mE_born l vs (i + 1) (by simpa using h)]
theorem mE_keys {κ : Type} {enc : κ → Value} : ∀ (l : List κ) (vs : List Value) (i : Nat), l.length = vs.length → (mE enc i l vs).map (·.key) = l.map enc
  | [], [], _, _ => rfl
  | a :: l, u :: vs, i, h => by
    simp only [mE, List.map_cons]
    rw [mE_keys l vs (i + 1) (by simpa using h)]
def rNil : Value → Option (DataW Unit × List MemPlace) := fun _ => some (.nil, [])
theorem encS_key {P : Program} {k : TypeId} (hk : P.underlying k = some .string) {s : List UInt8} (h : s.length ≤ maxLen) : keyOf P k (encS s) = some (.string s) := by
  have : (ByteArray.mk s.toArray).size ≤ maxLen := h
  simp [keyOf, hk, mapKey, encS, this]
theorem mE_rg {P : Program} {k : TypeId} (hk : P.underlying k = some .string) : ∀ (l : List (List UInt8)) (vs : List Value) (i : Nat), l.length = vs.length → (∀ x ∈ l, x.length ≤ maxLen) →
    (mE encS i l vs).map (rg P k rNil) = l.map fun s => (Lit.string s, (DataW.nil : DataW Unit))
  | [], [], _, _, _ => rfl
  | a :: l, u :: vs, i, h, hb => by
    simp only [mE, List.map_cons]
    rw [mE_rg hk l vs (i + 1) (by simpa using h) (fun x hx => hb x (.tail _ hx))]
    congr 1
    simp [WideElems.rg, WideElems.rd, encS_key hk (hb a (.head _)), rNil]

/-- What slices.Sorted asks of the keys. -/
def KeysFit {β : Type} (l : List (List UInt8 × β)) : Prop := (l.map Prod.fst).Nodup ∧ (∀ x ∈ l.map Prod.fst, x.length ≤ maxLen) ∧ l.length * 16 ≤ 140737488355328
noncomputable instance {β : Type} (l : List (List UInt8 × β)) : Decidable (KeysFit l) := Classical.propDecidable _
noncomputable def sortedKeys {β : Type} (l : List (List UInt8 × β)) : Option (List (List UInt8)) := Go.L.chk (KeysFit l) (some ((l.map Prod.fst).mergeSort leB))

theorem sorts (m : Nat) : AnyZ.SortsIn Tryz.prog Tryz.sortedA_ren Fence.wide m :=
  ⟨fun blk off cap ss W hH hblk hsz => callsIn_wide.2 (Any.slices_Sort_string Tryz.lays190 blk off cap ss W hH hblk hsz),
   fun p cap W => callsIn_wide.2 (Any.slices_Sort_string_none Tryz.lays190 p cap W)⟩

theorem elems_st (G : PH) : ∀ l : List (List UInt8), Elems Rp.st G l (l.map Go.Proofs.encStr)
  | [] => .nil
  | _ :: l => .cons (c := [_]) rfl (elems_st G l)

theorem sorted_ok (w : World) (H : PH) (hH : Le H (hp w)) {v : Value} {l : List (List UInt8 × List (Int × Int))} (hi : IterK H v l) {r : List (List UInt8)} (h : sortedKeys l = some r) :
    Ok Tryz.prog 66 [v] w (fun v' w' => Ext w w' ∧ ∃ u0, v' = u0 ∧ OwnH 9 .st H w w' u0 r) := by
  obtain ⟨⟨hnd, hlen, hby⟩, h⟩ := Go.L.chk_some h
  obtain rfl := Option.some.inj h
  obtain ⟨bx, u, rfl, hbx, b, vs, rfl, hb, hl, _⟩ := hi
  have hbx' : w.heap[bx]? = _ := hH _ _ hbx
  have hb' : w.heap[b]? = _ := hH _ _ hb
  have hlk : (l.map Prod.fst).length = vs.length := by rw [List.length_map]; exact hl
  have hml : (mE encS 0 (l.map Prod.fst) vs).length = l.length := by rw [mE_length _ _ _ hlk, List.length_map]
  have hrg := mE_rg (P := Tryz.prog) Tryz.underlying9 (l.map Prod.fst) vs 0 hlk hlen
  have hown : w.ownsMap Tryz.prog 9 rNil b l.length (.map (((mE encS 0 (l.map Prod.fst) vs).map (rg Tryz.prog 9 rNil)).foldr DataW.insert [])) := by
    refine ⟨_, _, hb', ⟨?_, ⟨?_, ?_, ?_⟩, ?_⟩, ?_, rfl⟩
    · rw [List.size_toArray, hml]; unfold maxLen; omega
    · intro x hx
      have h1 : x.born ∈ (mE encS 0 (l.map Prod.fst) vs).map (·.born) := List.mem_map_of_mem (by simpa using hx)
      rw [mE_born _ _ _ hlk, List.mem_range'_1, List.length_map] at h1
      omega
    · rw [List.toList_toArray, mE_born _ _ _ hlk]; exact List.nodup_range'
    · rw [List.toList_toArray, mE_keys _ _ _ hlk]
      exact List.pairwise_map.2 (hnd.imp fun {a b} hab he => hab (by simpa [encS] using he))
    · intro x hx
      have hx' : x ∈ mE encS 0 (l.map Prod.fst) vs := by simpa using hx
      have h1 : x.key ∈ (mE encS 0 (l.map Prod.fst) vs).map (·.key) := List.mem_map_of_mem hx'
      rw [mE_keys _ _ _ hlk] at h1
      obtain ⟨s, hs, he⟩ := List.mem_map.1 h1
      exact ⟨(.string s, .nil), by simp [WideElems.rd, ← he, encS_key Tryz.underlying9 (hlen s hs), rNil]⟩
    · rw [List.size_toArray, hml]; exact Nat.le_refl _
  rw [hrg] at hown
  have hq : ∀ ks : List (List UInt8), (strKeys (.map ((ks.map fun s => (Lit.string s, (DataW.nil : DataW Unit))).foldr DataW.insert []))).Perm ks := fun ks => by
    have h1 := (WideShapes.sorted_perm (ks.map fun s => (Lit.string s, (DataW.nil : DataW Unit)))).map (fun p => strOf p.1)
    rw [List.map_map] at h1
    have h2 : ((fun p : Lit × DataW Unit => strOf p.1) ∘ fun s => (Lit.string s, (DataW.nil : DataW Unit))) = id := by funext s; rfl
    rw [h2, List.map_id] at h1
    exact h1
  have hperm := hq (l.map Prod.fst)
  have hsz : Go.Maps.size (.map (((l.map Prod.fst).map fun s => (Lit.string s, (DataW.nil : DataW Unit))).foldr DataW.insert [])) = l.length := by
    have h1 := (WideShapes.sorted_perm ((l.map Prod.fst).map fun s => (Lit.string s, (DataW.nil : DataW Unit)))).length_eq
    rw [List.length_map, List.length_map] at h1
    exact h1
  have hseq : SeqGives Fence.wide 2 Tryz.prog 88 #[.pointer (some ⟨bx, 0, none⟩)] Go.Proofs.encStr (fun ss => ss.Perm (strKeys (.map (((l.map Prod.fst).map fun s => (Lit.string s, (DataW.nil : DataW Unit))).foldr DataW.insert [])))) (Go.Maps.size (.map (((l.map Prod.fst).map fun s => (Lit.string s, (DataW.nil : DataW Unit))).foldr DataW.insert []))) w :=
    AnyZ.keys_gives (ρ := Tryz.keysA_ren) { Tryz.keysA with } Fence.wide _ trivial rfl (by omega) bx b l.length _ _ (lt_of_heap hbx') (by simp [World.cell?, hbx']) hown
  have cS := AnyZ.sorted_in Tryz.sortedA Fence.wide 5 trivial trivial trivial trivial rfl (by omega) (sorts _) (enters_of Tryz.func87 (by kernel_rfl) rfl) 88 #[.pointer (some ⟨bx, 0, none⟩)] trivial (enters_of Tryz.func88 (by kernel_rfl) rfl) _ _ (by rw [hsz]; unfold maxLen; omega) (by rw [hsz]; exact hby) _ hseq
  change CallsIn _ _ Tryz.prog 66 _ _ _ at cS
  refine ⟨⟨Tryz.f66, _, Tryz.func66, rfl, rfl⟩, (callsIn_wide.1 cS).mono fun e w' he => ?_⟩
  obtain ⟨v', ss, rfl, hS, hrow, _, hbel⟩ := he
  refine ⟨_, rfl, ⟨hbel⟩, v', rfl, _, ?_, elems_st _ _⟩
  have e1 : ss.mergeSort leB = (l.map Prod.fst).mergeSort leB := mergeSort_of_perm (hS.trans hperm)
  have e2 : ss.length = ((l.map Prod.fst).mergeSort leB).length := by rw [← e1]; simp
  rw [e2] at hrow
  rw [← e1]
  rw [← e1] at hrow
  exact hrow
end Go.Proofs.YtdiieblgeaehpaaGreatDoor
