/- The form of an index, written and read again. -/
import Derived.Test.YtdiieblgeaehpaaGreatDoorWdR
import Derived.Test.YtdiieblgeaehpaaGreatDoorWdH
namespace Go.L
open Go Go.Proofs.YtdiieblgeaehpaaGreatDoor
theorem byte_self (b : UInt8) : u8 (b.toNat : Int) = b := by
  apply UInt8.toNat.inj
  have h := u8_toNat (b.toNat : Int)
  have := b.toNat_lt
  omega
/-- From a place on lie the codes of numbers. -/
structure RD (D : List UInt8) (p : Nat) (ns : List Nat) : Prop where
  ok : ∀ n ∈ ns, n ≠ 0 ∧ n < 16777216
  room : p + (ns.flatMap cb).length ≤ 8 * D.length
  bits : ∀ j, j < (ns.flatMap cb).length → bitAt D (p + j) = (ns.flatMap cb).getD j false
theorem gz_pos {n : Nat} (h : n ≠ 0) : 1 ≤ gz n := by have := blen_pos h; rw [gz_eq h]; omega
theorem RD.count {D : List UInt8} {p : Nat} {ns : List Nat} (h : RD D p ns) : ns.length ≤ 8 * D.length := by
  have h1 := h.room
  have h2 : ∀ ns : List Nat, (∀ n ∈ ns, n ≠ 0 ∧ n < 16777216) → ns.length ≤ (ns.flatMap cb).length := fun ns => by
    induction ns with
    | nil => intro _; simp
    | cons n ns ih =>
      intro h
      have h3 := ih (fun x hx => h x (List.mem_cons_of_mem _ hx))
      have h4 := gz_pos (h n (List.mem_cons_self ..)).1
      rw [List.flatMap_cons, List.length_append, List.length_cons, cb_len]
      omega
  have := h2 ns h.ok
  omega
theorem RD.tail {D : List UInt8} {p n : Nat} {ns : List Nat} (h : RD D p (n :: ns)) : RD D (p + gz n) ns := by
  have h1 := h.room
  have h2 := h.bits
  rw [List.flatMap_cons, List.length_append, cb_len] at h1 h2
  refine ⟨fun x hx => h.ok x (List.mem_cons_of_mem _ hx), by omega, fun j hj => ?_⟩
  have h3 := h2 (gz n + j) (by omega)
  rw [← Nat.add_assoc] at h3
  rw [h3, List.getD_eq_getElem?_getD, List.getElem?_append_right (by rw [cb_len]; omega), cb_len, Nat.add_sub_cancel_left, ← List.getD_eq_getElem?_getD]
/-- Hits as a form has them. -/
def HW (n : Int) : Hit → List Hit → Prop
  | _, [] => True
  | p, h :: r => p.1 ≤ h.1 ∧ h.1 < n ∧ (h.1 = p.1 → p.2 < h.2) ∧ 0 ≤ h.2 ∧ h.2 < 2048 ∧ HW n h r
def EW (n : Int) (e : List UInt8 × List Hit) : Prop := Lw e.1 ∧ e.1 ≠ [] ∧ e.1.length ≤ 2048 ∧ e.2 ≠ [] ∧ e.2.length ≤ 1000000 ∧ HW n (0, -1) e.2
/-- An index that has a form. -/
structure XW (x : Int × HM) : Prop where
  items : 0 ≤ x.1 ∧ x.1 ≤ 64
  inc : Inc (x.2.map Prod.fst)
  ents : ∀ e ∈ x.2, EW x.1 e
  once : (x.2.flatMap Prod.snd).Nodup
  size : gs (numsI x) ≤ 131072
  len : x.2.length ≤ 1000000
abbrev natN (l : List Int) : List Nat := l.map Int.toNat
theorem natN_app (l r : List Int) : natN (l ++ r) = natN l ++ natN r := List.map_append ..
end Go.L
namespace Go.Proofs.YtdiieblgeaehpaaGreatDoor
open Go Go.L
theorem rd_number {D : List UInt8} (hD : Full D) {p n : Nat} {ns : List Nat} (h : RD D p (n :: ns)) {most : Int} (hm : (n : Int) ≤ most) :
    words_reader_number ((D, ((8 * D.length : Nat) : Int)), (p : Int)) most = some (some ((n : Int), ((D, ((8 * D.length : Nat) : Int)), ((p + gz n : Nat) : Int)))) := by
  have h0 := h.ok n (List.mem_cons_self ..)
  have h1 := h.room
  have h2 := h.bits
  rw [List.flatMap_cons, List.length_append, cb_len] at h1 h2
  unfold words_reader_number words_reader_number_k1
  simp only
  rw [gamma_read hD h0.1 h0.2 (by omega) (fun j hj => by
    rw [h2 j (by omega), List.getD_eq_getElem?_getD, List.getElem?_append_left (by rw [cb_len]; exact hj), ← List.getD_eq_getElem?_getD]), Option.bind_some]
  simp only
  rw [if_neg (by simp; omega)]
theorem rd_hits {D : List UInt8} (hD : Full D) {n : Int} (hn : n ≤ 64) (word : List UInt8) (es : HM) (k : Int) (y8 : Int × ((List UInt8) × Int) × Int) (hy : y8.1 = n + 1) : ∀ (H : List Hit) (p : Nat) (last : Hit) (acc : List Hit) (rest : List Nat), RD D p (natN (hitsN last H) ++ rest) → HW n last H → 0 ≤ last.1 → -1 ≤ last.2 → last.2 ≤ 2048 → acc.length + H.length ≤ 1000000 →
    ∃ (q : Hit) (p' : Nat), RD D p' rest ∧ run (words_reader_index_bl7 word es k y8) (D, ((8 * D.length : Nat) : Int), (p : Int), last.1, last.2, acc, (H.length : Int)) = words_reader_index_k6 word es k q.1 q.2 D ((8 * D.length : Nat) : Int) (p' : Int) (acc ++ H)
  | [], p, last, acc, rest, hr, _, _, _, _, _ => by
    refine ⟨last, p, hr, ?_⟩
    refine run_inr ?_
    unfold words_reader_index_bl7
    simp only
    rw [if_neg (by simp), List.append_nil]
  | h :: r, p, last, acc, rest, hr, hw, l1, l2, l3, hlen => by
    obtain ⟨w1, w2, w3, w4, w5, w6⟩ := hw
    rw [List.length_cons] at hlen
    have hm1 : ((h :: r).length : Int) - 1 = (r.length : Int) := by rw [List.length_cons]; omega
    -- the two numbers of the hit
    have two : ∃ (a b : Nat), (a : Int) = 1 + h.1 - last.1 ∧ (b : Int) = (if h.1 = last.1 then h.2 - last.2 else h.2 + 1) ∧ natN (hitsN last (h :: r)) ++ rest = a :: b :: (natN (hitsN h r) ++ rest) := by
      have eh : hitsN last (h :: r) = (if h.1 = last.1 then [1, h.2 - last.2] else [1 + h.1 - last.1, h.2 + 1]) ++ hitsN h r := rfl
      rw [eh]
      by_cases hs : h.1 = last.1
      · have := w3 hs
        refine ⟨1, (h.2 - last.2).toNat, by omega, by rw [if_pos hs]; omega, ?_⟩
        rw [if_pos hs, natN_app, List.append_assoc]
        rfl
      · refine ⟨(1 + h.1 - last.1).toNat, (h.2 + 1).toNat, by omega, by rw [if_neg hs]; omega, ?_⟩
        rw [if_neg hs, natN_app, List.append_assoc]
        rfl
    obtain ⟨a, b, ha, hb, he⟩ := two
    rw [he] at hr
    have n1 := rd_number hD hr (most := 64) (by omega)
    have n2 := rd_number hD hr.tail (most := 2048) (by split at hb <;> omega)
    obtain ⟨q, p', k1, k2⟩ := rd_hits hD hn word es k y8 hy r (p + gz a + gz b) h (acc ++ [h]) rest hr.tail.tail w6 (by omega) (by omega) (by omega) (by rw [List.length_append, List.length_singleton]; omega)
    refine ⟨q, p', k1, ?_⟩
    rw [List.append_assoc] at k2
    rw [show acc ++ h :: r = acc ++ ([h] ++ r) from rfl, ← k2]
    refine run_inl ?_
    have i1 : last.1 + (a : Int) - 1 = h.1 := by omega
    unfold words_reader_index_bl7
    simp only
    rw [if_pos (by rw [List.length_cons]; omega), n1, Option.bind_some]
    unfold onX
    simp only
    rw [chk_pos (by constructor <;> omega), chk_pos (by constructor <;> omega), i1]
    unfold words_reader_index_k8
    have fin : ∀ base : Int, base + (b : Int) = h.2 → words_reader_index_k9 D ((8 * D.length : Nat) : Int) ((p + gz a : Nat) : Int) h.1 acc ((h :: r).length : Int) y8 base = some (.inl (D, ((8 * D.length : Nat) : Int), ((p + gz a + gz b : Nat) : Int), h.1, h.2, acc ++ [h], (r.length : Int))) := by
      intro base hbase
      unfold words_reader_index_k9
      rw [n2, Option.bind_some]
      unfold onX
      simp only
      rw [hbase, chk_pos (by constructor <;> omega)]
      unfold words_reader_index_k10 words_reader_index_k11
      rw [if_neg (by omega), if_neg (by omega), chk_pos (by rw [List.length_singleton]; constructor <;> omega), chk_pos (by rw [List.length_cons]; constructor <;> omega), hm1]
    by_cases hs : h.1 = last.1
    · rw [if_pos hs] at hb ⊢
      exact fin last.2 (by omega)
    · rw [if_neg hs] at hb ⊢
      exact fin (-1) (by omega)
theorem rd_word {D : List UInt8} (hD : Full D) (es : HM) (k : Int) (y8 : Int × ((List UInt8) × Int) × Int) : ∀ (w : List UInt8) (p : Nat) (acc : List UInt8) (rest : List Nat), RD D p (natN (w.map byteN) ++ rest) → acc.length + w.length ≤ 1000000 →
    ∃ p', RD D p' rest ∧ run (words_reader_index_bl5 es k y8) (D, ((8 * D.length : Nat) : Int), (p : Int), acc, (w.length : Int)) = words_reader_index_k4 es k y8 (acc ++ w) D ((8 * D.length : Nat) : Int) (p' : Int)
  | [], p, acc, rest, hr, _ => by
    refine ⟨p, hr, ?_⟩
    refine run_inr ?_
    unfold words_reader_index_bl5
    simp only
    rw [if_neg (by simp), List.append_nil]
  | b :: w, p, acc, rest, hr, hlen => by
    rw [List.length_cons] at hlen
    have hb := b.toNat_lt
    have e : natN ((b :: w).map byteN) ++ rest = (b.toNat + 1) :: (natN (w.map byteN) ++ rest) := by
      show (byteN b).toNat :: _ = _
      unfold byteN
      rw [show ((b.toNat : Int) + 1).toNat = b.toNat + 1 by omega]
      rfl
    rw [e] at hr
    have n1 := rd_number hD hr (most := 256) (by omega)
    obtain ⟨p', k1, k2⟩ := rd_word hD es k y8 w (p + gz (b.toNat + 1)) (acc ++ [b]) rest hr.tail (by rw [List.length_append, List.length_singleton]; omega)
    refine ⟨p', k1, ?_⟩
    rw [List.append_assoc] at k2
    rw [show acc ++ b :: w = acc ++ ([b] ++ w) from rfl, ← k2]
    refine run_inl ?_
    have e1 : ((b.toNat + 1 : Nat) : Int) - 1 = (b.toNat : Int) := by omega
    have e2 : ((b :: w).length : Int) - 1 = (w.length : Int) := by rw [List.length_cons]; omega
    unfold words_reader_index_bl5
    simp only
    rw [if_pos (by rw [List.length_cons]; omega), n1, Option.bind_some]
    unfold onX
    simp only
    rw [e1, byte_self, chk_pos (by constructor <;> omega), chk_pos (by rw [List.length_singleton]; constructor <;> omega), chk_pos (by rw [List.length_cons]; constructor <;> omega), e2]
theorem rd_entry {D : List UInt8} (hD : Full D) {n : Int} (hn : n ≤ 64) (y8 : Int × ((List UInt8) × Int) × Int) (hy : y8.1 = n + 1) {e : List UInt8 × List Hit} (he : EW n e) {es : HM} (hes : es.length ≤ 1000000) (hinc : Inc ((es ++ [e]).map Prod.fst)) {k : Nat} (hk : k ≤ 1000000000) {p : Nat} {rest : List Nat} (hr : RD D p (natN (entN e) ++ rest)) :
    ∃ p', RD D p' rest ∧ words_reader_index_bl2 y8 (D, ((8 * D.length : Nat) : Int), (p : Int), es, ((k + 1 : Nat) : Int)) = some (.inl (D, ((8 * D.length : Nat) : Int), (p' : Int), es ++ [e], (k : Int))) := by
  obtain ⟨w, H⟩ := e
  obtain ⟨h1, h2, h3, h4, h5, h6⟩ := he
  simp only at h1 h2 h3 h4 h5 h6
  have hD' := hD
  unfold Full at hD'
  have hw1 := List.length_pos_iff.2 h2
  have hH1 := List.length_pos_iff.2 h4
  have ee : natN (entN (w, H)) ++ rest = w.length :: (natN (w.map byteN) ++ (H.length :: (natN (hitsN (0, -1) H) ++ rest))) := by
    unfold entN
    simp only
    show (w.length : Int).toNat :: (natN (w.map byteN ++ ((H.length : Int) :: hitsN (0, -1) H)) ++ rest) = _
    rw [natN_app, List.append_assoc, Int.toNat_natCast]
    rfl
  rw [ee] at hr
  have n1 := rd_number hD hr (most := 2048) (by omega)
  obtain ⟨p1, r1, b1⟩ := rd_word hD es ((k + 1 : Nat) : Int) y8 w (p + gz w.length) [] _ hr.tail (by simp; omega)
  have hc := r1.count
  rw [List.length_cons, List.length_append, List.length_map, hitsN_len] at hc
  have n2 := rd_number hD r1 (most := ((8 * D.length : Nat) : Int) + 1) (by omega)
  obtain ⟨q, p2, r2, b2⟩ := rd_hits hD hn w es ((k + 1 : Nat) : Int) y8 hy H (p1 + gz H.length) (0, -1) [] rest r1.tail h6 (by decide) (by decide) (by decide) (by simp; omega)
  refine ⟨p2, r2, ?_⟩
  rw [List.nil_append] at b1 b2
  have b2' : run (words_reader_index_bl7 w es ((k + 1 : Nat) : Int) y8) (D, ((8 * D.length : Nat) : Int), ((p1 + gz H.length : Nat) : Int), 0, -1, [], (H.length : Int)) = words_reader_index_k6 w es ((k + 1 : Nat) : Int) q.1 q.2 D ((8 * D.length : Nat) : Int) (p2 : Int) H := b2
  unfold words_reader_index_bl2
  simp only
  rw [if_pos (by omega), n1, Option.bind_some]
  unfold onX words_reader_index_l5
  simp only
  rw [b1]
  unfold words_reader_index_k4
  rw [chk_pos (by constructor <;> omega), n2, Option.bind_some]
  unfold onX words_reader_index_l7
  simp only
  rw [b2']
  unfold words_reader_index_k6
  have ek : (((k + 1 : Nat) : Int) - 1) = (k : Int) := by omega
  have hiw : words_isWord w = some true := by rw [isWord_eq (by omega), wds_one h1 h2, decide_eq_true rfl]
  rw [hiw, Option.bind_some, if_neg (by decide)]
  have fin : ∀ (a : Int) (b c d : Bool), words_reader_index_k12 D ((8 * D.length : Nat) : Int) (p2 : Int) w H es ((k + 1 : Nat) : Int) a b c d = some (.inl (D, ((8 * D.length : Nat) : Int), (p2 : Int), es ++ [(w, H)], (k : Int))) := by
    intro a b c d
    unfold words_reader_index_k12 words_reader_index_k3
    rw [chk_pos (by rw [List.length_singleton]; constructor <;> omega), chk_pos (by constructor <;> omega), ek]
  rcases snoc_cases es with rfl | ⟨L, z, rfl⟩
  · rw [if_neg (by simp)]
    exact fin _ _ _ _
  · have hzl : (L ++ [z]).length = L.length + 1 := by simp
    have ez : (((L.length + 1 : Nat) : Int) - 1).toNat = L.length := by omega
    have hzg : (L ++ [z]).getD L.length default = z := by rw [List.getD_eq_getElem?_getD, List.getElem?_append_right (Nat.le_refl _), Nat.sub_self]; rfl
    have hlt : z.1 < w := by
      rw [List.map_append, List.map_append, List.append_assoc] at hinc
      have := (List.pairwise_append.1 hinc).2.1
      exact (List.pairwise_cons.1 this).1 w (List.mem_singleton_self w)
    have hbl : (Op.bytesLess w z.1 || decide (w = z.1)) = false := by
      rw [less_lt, Bool.or_eq_false_iff, decide_eq_false_iff_not, decide_eq_false_iff_not]
      exact ⟨fun h => llt_irrefl w (List.lt_trans h hlt), fun h => llt_irrefl w (by rw [← h] at hlt; exact hlt)⟩
    rw [hzl, if_pos (by omega), chk_pos (by constructor <;> omega), chk_pos ⟨by omega, by omega⟩, ez, hzg, hbl, if_neg (by decide)]
    exact fin _ _ _ _
theorem rd_entries {D : List UInt8} (hD : Full D) {n : Int} (hn : n ≤ 64) (y8 : Int × ((List UInt8) × Int) × Int) (hy : y8.1 = n + 1) : ∀ (r es : HM) (p : Nat), (∀ e ∈ r, EW n e) → (es ++ r).length ≤ 1000000 → Inc ((es ++ r).map Prod.fst) → RD D p (natN (r.flatMap entN)) →
    ∃ p' : Nat, run (words_reader_index_bl2 y8) (D, ((8 * D.length : Nat) : Int), (p : Int), es, (r.length : Int)) = some (some ((n, es ++ r), ((D, ((8 * D.length : Nat) : Int)), (p' : Int))))
  | [], es, p, _, _, _, _ => by
    refine ⟨p, run_inr ?_⟩
    unfold words_reader_index_bl2 words_reader_index_k1
    simp only
    rw [if_neg (by simp), hy, Int.add_sub_cancel, List.append_nil]
  | e :: r, es, p, hE, hlen, hinc, hr => by
    have e1 : (es ++ [e]) ++ r = es ++ e :: r := by rw [List.append_assoc]; rfl
    have hl' : (es ++ e :: r).length = es.length + (r.length + 1) := by rw [List.length_append, List.length_cons]
    have hp : Inc ((es ++ [e]).map Prod.fst) := by
      rw [← e1, List.map_append] at hinc
      exact (List.pairwise_append.1 hinc).1
    rw [List.flatMap_cons, natN_app] at hr
    obtain ⟨p1, r1, b1⟩ := rd_entry hD hn y8 hy (hE e (List.mem_cons_self ..)) (es := es) (by omega) hp (k := r.length) (by omega) hr
    obtain ⟨p2, b2⟩ := rd_entries hD hn y8 hy r (es ++ [e]) p1 (fun x hx => hE x (List.mem_cons_of_mem _ hx)) (by rw [e1]; exact hlen) (by rw [e1]; exact hinc) r1
    refine ⟨p2, ?_⟩
    rw [e1] at b2
    rw [← b2]
    exact run_inl b1
theorem rd_index {D : List UInt8} (hD : Full D) {x : Int × HM} (hx : XW x) (hr : RD D 0 (natN (numsI x))) : ∃ p : Nat, words_reader_index ((D, ((8 * D.length : Nat) : Int)), 0) = some (some (x, ((D, ((8 * D.length : Nat) : Int)), (p : Int)))) := by
  obtain ⟨n, es⟩ := x
  obtain ⟨⟨i1, i2⟩, hinc, hE, _, _, hlen⟩ := hx
  simp only at i1 i2 hinc hE hlen
  have hD' := hD
  unfold Full at hD'
  have e0 : natN (numsI (n, es)) = (n + 1).toNat :: ((es.length : Int) + 1).toNat :: natN (es.flatMap entN) := rfl
  have a1 : (((n + 1).toNat : Nat) : Int) = n + 1 := by omega
  have a2 : ((((es.length : Int) + 1).toNat : Nat) : Int) = (es.length : Int) + 1 := by omega
  rw [e0] at hr
  have hc := hr.count
  have hfl : ∀ l : HM, l.length ≤ (natN (l.flatMap entN)).length := fun l => by
    induction l with
    | nil => simp
    | cons e l ih =>
      rw [List.flatMap_cons, natN_app, List.length_append, List.length_cons]
      have : 1 ≤ (natN (entN e)).length := by unfold entN; simp
      omega
  have h1 := hfl es
  rw [List.length_cons, List.length_cons] at hc
  have n1 := rd_number hD hr (most := 65) (by omega)
  have n2 := rd_number hD hr.tail (most := ((8 * D.length : Nat) : Int) + 1) (by omega)
  rw [Int.natCast_zero] at n1
  rw [a1] at n1
  rw [a2] at n2
  have y : ∃ y8 : Int × ((List UInt8) × Int) × Int, y8 = (n + 1, ((D, ((8 * D.length : Nat) : Int)), ((0 + gz (n + 1).toNat : Nat) : Int))) := ⟨_, rfl⟩
  obtain ⟨y8, hy8⟩ := y
  obtain ⟨p2, b2⟩ := rd_entries hD i2 y8 (by rw [hy8]) es [] _ hE hlen hinc hr.tail.tail
  refine ⟨p2, ?_⟩
  unfold words_reader_index
  simp only
  rw [n1, Option.bind_some]
  unfold onX
  simp only
  rw [chk_pos (by constructor <;> omega), chk_pos (by constructor <;> omega), n2, Option.bind_some]
  simp only
  rw [chk_pos (by constructor <;> omega), Int.add_sub_cancel]
  unfold words_reader_index_l2
  rw [← hy8]
  exact b2
end Go.Proofs.YtdiieblgeaehpaaGreatDoor
