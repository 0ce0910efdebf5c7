/- The form of an index: Bytes, and Open of it. -/
import Derived.Test.YtdiieblgeaehpaaGreatDoorWdS
namespace Go.L
open Go Go.Proofs.YtdiieblgeaehpaaGreatDoor
theorem hitsN_bounds {n : Int} (hn : n ≤ 64) : ∀ (l : List Hit) (p : Hit), 0 ≤ p.1 → -1 ≤ p.2 → p.2 ≤ 2048 → HW n p l → ∀ m ∈ hitsN p l, 1 ≤ m ∧ m < 16777216
  | [], _, _, _, _, _, m, hm => by cases hm
  | h :: r, p, p1, p2, p3, hw, m, hm => by
    obtain ⟨w1, w2, w3, w4, w5, w6⟩ := hw
    unfold hitsN at hm
    rcases List.mem_append.1 hm with hm | hm
    · split at hm
      · rename_i hs
        have := w3 hs
        simp only [List.mem_cons, List.not_mem_nil, or_false] at hm
        omega
      · simp only [List.mem_cons, List.not_mem_nil, or_false] at hm
        omega
    · exact hitsN_bounds hn r h (by omega) (by omega) (by omega) w6 m hm
theorem HW.bounds {n : Int} (hn : n ≤ 64) : ∀ (l : List Hit) (p : Hit), 0 ≤ p.1 → HW n p l → ∀ h ∈ l, HB h
  | [], _, _, _, h, hh => by cases hh
  | x :: r, p, p1, hw, h, hh => by
    obtain ⟨w1, w2, w3, w4, w5, w6⟩ := hw
    rcases List.mem_cons.1 hh with rfl | hh
    · exact ⟨by omega, by omega, by omega, by omega⟩
    · exact HW.bounds hn r x (by omega) w6 h hh
theorem XW.nums {x : Int × HM} (hx : XW x) : ∀ m ∈ numsI x, 1 ≤ m ∧ m < 16777216 := by
  intro m hm
  have h1 := hx.items
  have h2 := hx.len
  unfold numsI at hm
  rcases List.mem_cons.1 hm with rfl | hm
  · omega
  rcases List.mem_cons.1 hm with rfl | hm
  · omega
  obtain ⟨e, he, hm⟩ := List.mem_flatMap.1 hm
  obtain ⟨e1, e2, e3, e4, e5, e6⟩ := hx.ents e he
  have e2' := List.length_pos_iff.2 e2
  have e4' := List.length_pos_iff.2 e4
  unfold entN at hm
  rcases List.mem_cons.1 hm with rfl | hm
  · omega
  rcases List.mem_append.1 hm with hm | hm
  · obtain ⟨b, _, rfl⟩ := List.mem_map.1 hm
    have := b.toNat_lt
    unfold byteN
    omega
  rcases List.mem_cons.1 hm with rfl | hm
  · omega
  · exact hitsN_bounds h1.2 e.2 (0, -1) (by decide) (by decide) (by decide) e6 m hm
/-- The bits of the form of an index. -/
def bitsX (x : Int × HM) : List Bool := (numsI x).flatMap fun n => cb n.toNat
theorem bitsX_len (x : Int × HM) : (bitsX x).length = gs (numsI x) := by
  unfold bitsX gs
  induction numsI x with
  | nil => rfl
  | cons n l ih => rw [List.flatMap_cons, List.length_append, cb_len, ih, List.map_cons, List.sum_cons]
theorem natN_flat (l : List Int) : (natN l).flatMap cb = l.flatMap fun n => cb n.toNat := by
  unfold natN
  rw [List.flatMap_map]
theorem RD.of_packed {D : List UInt8} {x : Int × HM} (hx : XW x) (hP : Packed D (bitsX x)) : RD D 0 (natN (numsI x)) := by
  obtain ⟨h1, h2⟩ := hP
  have hn := hx.nums
  refine ⟨fun n hn' => ?_, ?_, fun j hj => ?_⟩
  · obtain ⟨m, hm, rfl⟩ := List.mem_map.1 hn'
    have := hn m hm
    omega
  · rw [natN_flat]
    show 0 + (bitsX x).length ≤ _
    omega
  · rw [natN_flat] at hj ⊢
    have hj : j < (bitsX x).length := hj
    rw [Nat.zero_add]
    exact h2 j (by omega)
/-- The hits that were seen. -/
def seenM (done : List Hit) (M : List (Hit × Bool)) : List (Hit × Bool) := done.foldl (fun M h => mput h true M) M
theorem seenM_get (done : List Hit) (h : Hit) : ∀ M : List (Hit × Bool), mget false h M = false → h ∉ done → mget false h (seenM done M) = false := by
  induction done with
  | nil => intro M hM _; exact hM
  | cons k done ih =>
    intro M hM hn
    simp only [List.mem_cons, not_or] at hn
    exact ih (mput k true M) (by rw [mget_mput, if_neg hn.1]; exact hM) hn.2
end Go.L
namespace Go.Proofs.YtdiieblgeaehpaaGreatDoor
open Go Go.L
/-- The form of an index is its bits, packed. -/
theorem bytes_eq {x : Int × HM} (hx : XW x) : ∃ D, words_Index_Bytes x = some D ∧ Packed D (bitsX x) ∧ Full D := by
  have h1 := hx.items
  have h2 := hx.len
  have h3 := hx.size
  have hn := hx.nums
  have hEB : ∀ e ∈ x.2, EB e := fun e he => by
    obtain ⟨e1, e2, e3, e4, e5, e6⟩ := hx.ents e he
    exact ⟨by omega, by omega, e6.bounds h1.2 e.2 (0, -1) (by decide)⟩
  obtain ⟨D, d1, d2⟩ := make_eq (bitsX x) (by rw [bitsX_len]; exact h3)
  have hlen := bitsX_len x
  have hpos : (bitsX x).length ≠ 0 := by
    rw [hlen]
    have := gz_pos (n := (x.1 + 1).toNat) (by omega)
    unfold numsI gs
    rw [List.map_cons, List.sum_cons]
    omega
  refine ⟨D, ?_, d2, by have := d2.1; unfold Full; omega⟩
  unfold words_Index_Bytes
  rw [show (x.1, x.2) = x from rfl, nlt_eq (by omega) (by omega) hEB, fm_bytes _ _ (fun n h => by have := hn n h; omega) (by simp; omega), Option.bind_some, List.nil_append]
  have e : ((numsI x).flatMap fun n => cb n.toNat) = bitsX x := rfl
  simp only
  rw [e, chk_pos (by intro h; have := congrArg List.length h; rw [List.length_map] at this; exact hpos this), d1]
  rfl
theorem seen_in {x : Int × HM} {st : ((List UInt8) × Int) × Int} {i : Nat} {e : List UInt8 × List Hit} (hi : i < 1000000) (he : x.2.getD i default = e) (hl : e.2.length ≤ 1000000) : ∀ (r : List Hit) (j : Nat) (M : List (Hit × Bool)), e.2.drop j = r → r.Nodup → (∀ h ∈ r, mget false h M = false) →
    run (words_Open_bl4 (i : Int) (x, st)) (M, (j : Int)) = some (.inl (seenM r M, ((i + 1 : Nat) : Int)))
  | [], j, M, hd, _, _ => by
    have hlen := len_drop hd
    refine run_inr ?_
    unfold words_Open_bl4 words_Open_k3
    simp only
    rw [Int.toNat_natCast, he, if_neg (by omega), chk_pos (by constructor <;> omega)]
    rfl
  | h :: r, j, M, hd, hnd, hM => by
    obtain ⟨hg, hd', hlt⟩ := getD_drop hd
    have hnd' := List.nodup_cons.1 hnd
    rw [show seenM (h :: r) M = seenM r (mput h true M) from rfl, ← seen_in hi he hl r (j + 1) (mput h true M) hd' hnd'.2 (fun k hk => by
      rw [mget_mput, if_neg (fun e => hnd'.1 (by rw [← e]; exact hk))]
      exact hM k (List.mem_cons_of_mem _ hk))]
    refine run_inl ?_
    unfold words_Open_bl4
    simp only
    have hm : mget false (h.1, h.2) M = false := hM h (List.mem_cons_self ..)
    rw [Int.toNat_natCast, he, if_pos (by omega), chk_pos ⟨by omega, by omega⟩, Int.toNat_natCast, hg, hm, if_neg (by decide), chk_pos (by constructor <;> omega)]
    rfl
theorem seen_out {x : Int × HM} {st : ((List UInt8) × Int) × Int} {b : List UInt8} (hlen : x.2.length ≤ 1000000) (hl : ∀ e ∈ x.2, e.2.length ≤ 1000000) : ∀ (r : HM) (i : Nat) (M : List (Hit × Bool)), x.2.drop i = r → (r.flatMap Prod.snd).Nodup → (∀ h ∈ r.flatMap Prod.snd, mget false h M = false) →
    ∃ M', run (words_Open_bl2 b (x, st)) (M, (i : Int)) = words_Open_k1 b (x, st) M'
  | [], i, M, hd, _, _ => by
    have h1 := len_drop hd
    refine ⟨M, run_inr ?_⟩
    unfold words_Open_bl2
    simp only
    rw [if_neg (by omega)]
  | e :: r, i, M, hd, hnd, hM => by
    obtain ⟨hg, hd', hlt⟩ := getD_drop hd
    rw [List.flatMap_cons] at hnd hM
    obtain ⟨n1, n2, n3⟩ := List.nodup_append.1 hnd
    have he : e ∈ x.2 := List.mem_of_mem_drop (by rw [hd]; exact List.mem_cons_self ..)
    obtain ⟨M', k⟩ := seen_out (b := b) (st := st) hlen hl r (i + 1) (seenM e.2 M) hd' n2 (fun h hh => seenM_get e.2 h M (hM h (List.mem_append.2 (.inr hh))) (fun hh' => n3 h hh' h hh rfl))
    refine ⟨M', ?_⟩
    rw [← k]
    refine run_inl ?_
    unfold words_Open_bl2 words_Open_l4
    simp only
    rw [if_pos (by omega), chk_pos ⟨by omega, by omega⟩]
    exact seen_in (by omega) hg (hl e he) e.2 0 M rfl n1 (fun h hh => hM h (List.mem_append.2 (.inl hh)))
/-- The index is opened from its form. -/
theorem open_form {x : Int × HM} (hx : XW x) {D : List UInt8} (hD : words_Index_Bytes x = some D) : words_Open D = some (x, (0, 0)) := by
  obtain ⟨D', d1, d2, d3⟩ := bytes_eq hx
  obtain rfl : D' = D := Option.some.inj (d1.symm.trans hD)
  have hD' := d3
  unfold Full at hD'
  obtain ⟨p, hp⟩ := rd_index d3 hx (RD.of_packed hx d2)
  unfold words_Open
  have hcl : slices_Clone_byte_byte D' = some D' := by
    unfold slices_Clone_byte_byte
    rw [chk_pos (by rw [List.length_nil]; constructor <;> omega), List.nil_append]
  have e8 : (8 : Int) * (D'.length : Int) = ((8 * D'.length : Nat) : Int) := by omega
  rw [if_neg (by omega), hcl, Option.bind_some, e8, chk_pos (by constructor <;> omega), hp, Option.bind_some]
  unfold onX words_Open_l2
  simp only
  obtain ⟨M', k⟩ := seen_out (x := x) (b := D') (st := ((D', ((8 * D'.length : Nat) : Int)), (p : Int))) hx.len (fun e he => (hx.ents e he).2.2.2.2.1) x.2 0 [] rfl hx.once (fun h _ => rfl)
  rw [show ((0 : Int)) = ((0 : Nat) : Int) from rfl, k]
  unfold words_Open_k1 words_Open_k5 words_Open_1_no
  simp only
  rw [show (x.1, x.2) = x from rfl, d1, Option.bind_some]
  unfold bytes_Equal
  rw [Option.bind_some, decide_eq_true rfl, if_neg (by decide)]
  rfl
end Go.Proofs.YtdiieblgeaehpaaGreatDoor
namespace Go.L
open Go Go.Proofs.YtdiieblgeaehpaaGreatDoor
end Go.L
