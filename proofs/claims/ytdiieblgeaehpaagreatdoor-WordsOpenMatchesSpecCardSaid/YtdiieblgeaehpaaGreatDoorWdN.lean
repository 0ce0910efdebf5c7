/- The numbers of the form of an index, plainly: what is done for each of them, in order. -/
import Derived.Test.YtdiieblgeaehpaaGreatDoorWdF
import Derived.Test.YtdiieblgeaehpaaGreatDoorP7
namespace Go.L
open Go Go.Proofs.YtdiieblgeaehpaaGreatDoor
section
variable {σ ρ α : Type}
theorem run_bindn {b : σ → Option (σ ⊕ ρ)} {s : σ} {m : Option α} {k : α → Option (σ ⊕ ρ)} {R : α → Option ρ} (h : b s = m.bind k) (hs : ∀ x, b s = k x → run b s = R x) : run b s = m.bind R := by
  cases m with
  | none => exact run_inr (m := none) h
  | some x => exact hs x h
theorem bcg {β : Type} {m : Option α} {f g : α → Option β} (h : ∀ x, f x = g x) : m.bind f = m.bind g := congrArg _ (funext h)
/-- For each number, in order. -/
def fm (f : Int → σ → Option σ) : List Int → σ → Option σ
  | [], c => some c
  | n :: r, c => (f n c).bind (fm f r)
theorem fm_app (f : Int → σ → Option σ) : ∀ (l r : List Int) (c : σ), fm f (l ++ r) c = (fm f l c).bind (fm f r)
  | [], _, _ => rfl
  | n :: l, r, c => by
    show (f n c).bind (fm f (l ++ r)) = ((f n c).bind (fm f l)).bind (fm f r)
    rw [Option.bind_assoc]
    refine bcg fun x => ?_
    exact fm_app f l r x
end
def hitsN : Hit → List Hit → List Int
  | _, [] => []
  | p, h :: r => (if h.1 = p.1 then [1, h.2 - p.2] else [1 + h.1 - p.1, h.2 + 1]) ++ hitsN h r
def byteN (b : UInt8) : Int := (b.toNat : Int) + 1
def entN (e : List UInt8 × List Hit) : List Int := (e.1.length : Int) :: (e.1.map byteN ++ ((e.2.length : Int) :: hitsN (0, -1) e.2))
def numsI (x : Int × HM) : List Int := (x.1 + 1) :: ((x.2.length : Int) + 1) :: x.2.flatMap entN
/-- A hit within bounds. -/
def HB (h : Hit) : Prop := 0 ≤ h.1 ∧ h.1 ≤ 1000000000 ∧ -1 ≤ h.2 ∧ h.2 ≤ 1000000000
def EB (e : List UInt8 × List Hit) : Prop := e.1.length ≤ 1000000000 ∧ e.2.length ≤ 1000000000 ∧ ∀ h ∈ e.2, HB h
end Go.L
namespace Go.Proofs.YtdiieblgeaehpaaGreatDoor
open Go Go.L
noncomputable abbrev bytesF (n : Int) (c : Unit × List UInt8) : Option (Unit × List UInt8) := words_Index_Bytes_1 n ((), c.2)
theorem nlt_l5 {a : Int × HM} {i : Nat} (hi : i < 1000000000) {H : List Hit} (hH : H.length ≤ 1000000000) (he : (a.2.getD i default).2 = H) : ∀ (r : List Hit) (j : Nat) (p : Hit) (c : Unit × List UInt8), H.drop j = r → j ≤ H.length → HB p → (∀ h ∈ r, HB h) →
    run (words_Index_numbers_s2_bl5 a (i : Int)) (p.1, p.2, c.2, (j : Int)) = (fm bytesF (hitsN p r) c).bind fun c => some (.inl (c.2, ((i + 1 : Nat) : Int)))
  | [], j, p, c, hd, hj, hp, hr => by
    have hlen := congrArg List.length hd
    rw [List.length_drop, List.length_nil] at hlen
    show _ = some (Sum.inl (c.2, ((i + 1 : Nat) : Int)))
    refine run_inr ?_
    unfold words_Index_numbers_s2_bl5 words_Index_numbers_s2_k2
    simp only
    rw [Int.toNat_natCast, he, if_neg (by omega), chk_pos (by constructor <;> omega)]
    congr 3
  | h :: r, j, p, c, hd, hj, hp, hr => by
    have hlen := congrArg List.length hd
    rw [List.length_drop, List.length_cons] at hlen
    have hg : H.getD j default = h := by
      have := congrArg (·[0]?) hd
      simp only [List.getElem?_drop, List.getElem?_cons_zero, Nat.add_zero] at this
      rw [List.getD_eq_getElem?_getD, this]
      rfl
    have hd' : H.drop (j + 1) = r := by rw [← List.drop_drop, hd]; rfl
    obtain ⟨h1, h2, h3, h4⟩ := hr h (List.mem_cons_self ..)
    obtain ⟨p1, p2, p3, p4⟩ := hp
    have ej : ((j : Nat) : Int) + 1 = ((j + 1 : Nat) : Int) := by omega
    have ih := fun c => nlt_l5 hi hH he r (j + 1) h c hd' (by omega) ⟨h1, h2, h3, h4⟩ (fun x hx => hr x (List.mem_cons_of_mem _ hx))
    unfold hitsN
    rw [fm_app, Option.bind_assoc]
    by_cases hs : h.1 = p.1
    · rw [if_pos hs]
      show _ = Option.bind (Option.bind (bytesF 1 c) (fun x => Option.bind (bytesF (h.2 - p.2) x) some)) _
      rw [Option.bind_assoc]
      have hb : words_Index_numbers_s2_bl5 a (i : Int) (p.1, p.2, c.2, (j : Int)) = Option.bind (bytesF 1 c) (fun x => Option.bind (bytesF (h.2 - p.2) x) (fun y => some (.inl (h.1, h.2, y.2, ((j + 1 : Nat) : Int))))) := by
        unfold words_Index_numbers_s2_bl5
        simp only
        rw [Int.toNat_natCast, he, if_pos (by omega), chk_pos ⟨by omega, by omega⟩, Int.toNat_natCast, hg, if_pos hs, ej]
        refine bcg fun x => ?_
        rw [chk_pos (by constructor <;> omega)]
        refine bcg fun y => ?_
        rw [chk_pos (by constructor <;> omega)]
      refine run_bindn hb fun x hx => ?_
      rw [Option.bind_assoc]
      refine run_bindn hx fun y hy => ?_
      rw [run_inl hy]
      exact ih y
    · rw [if_neg hs]
      show _ = Option.bind (Option.bind (bytesF (1 + h.1 - p.1) c) (fun x => Option.bind (bytesF (h.2 + 1) x) some)) _
      rw [Option.bind_assoc]
      have hb : words_Index_numbers_s2_bl5 a (i : Int) (p.1, p.2, c.2, (j : Int)) = Option.bind (bytesF (1 + h.1 - p.1) c) (fun x => Option.bind (bytesF (h.2 + 1) x) (fun y => some (.inl (h.1, h.2, y.2, ((j + 1 : Nat) : Int))))) := by
        unfold words_Index_numbers_s2_bl5
        simp only
        rw [Int.toNat_natCast, he, if_pos (by omega), chk_pos ⟨by omega, by omega⟩, Int.toNat_natCast, hg, if_neg hs, chk_pos (by constructor <;> omega), chk_pos (by constructor <;> omega), ej]
        refine bcg fun x => ?_
        rw [chk_pos (by constructor <;> omega)]
        refine bcg fun y => ?_
        rw [chk_pos (by constructor <;> omega)]
      refine run_bindn hb fun x hx => ?_
      rw [Option.bind_assoc]
      refine run_bindn hx fun y hy => ?_
      rw [run_inl hy]
      exact ih y
theorem nlt_l4 {a : Int × HM} {i : Nat} (hi : i < 1000000000) {w : List UInt8} {H : List Hit} (hw : w.length ≤ 1000000000) (hH : H.length ≤ 1000000000) (he : a.2.getD i default = (w, H)) (hb : ∀ h ∈ H, HB h) : ∀ (r : List UInt8) (j : Nat) (c : Unit × List UInt8), w.drop j = r → j ≤ w.length →
    run (words_Index_numbers_s2_bl4 a (i : Int)) (c.2, (j : Int)) = (fm bytesF (r.map byteN ++ ((H.length : Int) :: hitsN (0, -1) H)) c).bind fun c => some (.inl (c.2, ((i + 1 : Nat) : Int)))
  | [], j, c, hd, hj => by
    have hlen := congrArg List.length hd
    rw [List.length_drop, List.length_nil] at hlen
    refine run_inr ?_
    have e1 : (a.2.getD i default).1 = w := by rw [he]
    have e2 : (a.2.getD i default).2 = H := by rw [he]
    unfold words_Index_numbers_s2_bl4 words_Index_numbers_s2_k3 words_Index_numbers_s2_l5
    simp only
    rw [Int.toNat_natCast, e1, e2, if_neg (by omega)]
    congr 1
    show _ = Option.bind (Option.bind (bytesF (H.length : Int) c) (fm bytesF (hitsN (0, -1) H))) _
    rw [Option.bind_assoc]
    refine bcg fun x => ?_
    exact nlt_l5 hi hH e2 H 0 (0, -1) x rfl (Nat.zero_le _) ⟨by decide, by decide, by decide, by decide⟩ hb
  | b :: r, j, c, hd, hj => by
    have hlen := congrArg List.length hd
    rw [List.length_drop, List.length_cons] at hlen
    have hg : w.getD j default = b := by
      have := congrArg (·[0]?) hd
      simp only [List.getElem?_drop, List.getElem?_cons_zero, Nat.add_zero] at this
      rw [List.getD_eq_getElem?_getD, this]
      rfl
    have hd' : w.drop (j + 1) = r := by rw [← List.drop_drop, hd]; rfl
    have ej : ((j : Nat) : Int) + 1 = ((j + 1 : Nat) : Int) := by omega
    have e1 : (a.2.getD i default).1 = w := by rw [he]
    have hb8 := b.toNat_lt
    show _ = Option.bind (Option.bind (bytesF (byteN b) c) (fm bytesF (r.map byteN ++ ((H.length : Int) :: hitsN (0, -1) H)))) _
    rw [Option.bind_assoc]
    have hbody : words_Index_numbers_s2_bl4 a (i : Int) (c.2, (j : Int)) = Option.bind (bytesF (byteN b) c) (fun x => some (.inl (x.2, ((j + 1 : Nat) : Int)))) := by
      unfold words_Index_numbers_s2_bl4
      simp only
      rw [Int.toNat_natCast, e1, if_pos (by omega), chk_pos ⟨by omega, by omega⟩, Int.toNat_natCast, hg, chk_pos (by constructor <;> omega), ej]
      refine bcg fun x => ?_
      rw [chk_pos (by constructor <;> omega)]
    refine run_bindn hbody fun x hx => ?_
    rw [run_inl hx]
    exact nlt_l4 hi hw hH he hb r (j + 1) x hd' (by omega)
theorem nlt_l1 {a : Int × HM} (hn : a.2.length < 1000000000) : ∀ (r : HM) (i : Nat) (c : Unit × List UInt8), a.2.drop i = r → i ≤ a.2.length → (∀ e ∈ r, EB e) →
    run (words_Index_numbers_s2_bl1 a) (c.2, (i : Int)) = fm bytesF (r.flatMap entN) c
  | [], i, c, hd, hi, _ => by
    have hlen := congrArg List.length hd
    rw [List.length_drop, List.length_nil] at hlen
    refine run_inr (m := some c) ?_
    unfold words_Index_numbers_s2_bl1
    simp only
    rw [if_neg (by omega)]
  | e :: r, i, c, hd, hi, hE => by
    have hlen := congrArg List.length hd
    rw [List.length_drop, List.length_cons] at hlen
    have hg : a.2.getD i default = e := by
      have := congrArg (·[0]?) hd
      simp only [List.getElem?_drop, List.getElem?_cons_zero, Nat.add_zero] at this
      rw [List.getD_eq_getElem?_getD, this]
      rfl
    have hd' : a.2.drop (i + 1) = r := by rw [← List.drop_drop, hd]; rfl
    obtain ⟨w, H⟩ := e
    obtain ⟨hw, hH, hB⟩ := hE _ (List.mem_cons_self ..)
    simp only at hw hH hB
    rw [List.flatMap_cons, fm_app]
    show _ = Option.bind (Option.bind (bytesF (w.length : Int) c) (fm bytesF (w.map byteN ++ ((H.length : Int) :: hitsN (0, -1) H)))) _
    rw [Option.bind_assoc]
    have hbody : words_Index_numbers_s2_bl1 a (c.2, (i : Int)) = Option.bind (bytesF (w.length : Int) c) (fun x => (fm bytesF (w.map byteN ++ ((H.length : Int) :: hitsN (0, -1) H)) x).bind fun c => some (.inl (c.2, ((i + 1 : Nat) : Int)))) := by
      have e1 : (a.2.getD i default).1 = w := by rw [hg]
      unfold words_Index_numbers_s2_bl1 words_Index_numbers_s2_l4
      simp only
      rw [Int.toNat_natCast, e1, if_pos (by omega), chk_pos ⟨by omega, by omega⟩]
      refine bcg fun x => ?_
      rw [chk_pos (by omega)]
      exact nlt_l4 (by omega) hw hH hg hB w 0 x rfl (Nat.zero_le _)
    refine run_bindn hbody fun x hx => ?_
    refine run_bindn hx fun y hy => ?_
    rw [run_inl hy]
    exact nlt_l1 hn r (i + 1) y hd' (by omega) (fun z hz => hE z (List.mem_cons_of_mem _ hz))
theorem nlt_eq {a : Int × HM} (h1 : 0 ≤ a.1 ∧ a.1 ≤ 1000000000) (hn : a.2.length < 1000000000) (hE : ∀ e ∈ a.2, EB e) (c : Unit × List UInt8) : words_Index_numbers_s2 a c = fm bytesF (numsI a) c := by
  unfold words_Index_numbers_s2
  rw [chk_pos (by constructor <;> omega)]
  show _ = Option.bind (bytesF (a.1 + 1) c) (fun x => Option.bind (bytesF ((a.2.length : Int) + 1) x) (fm bytesF (a.2.flatMap entN)))
  refine bcg fun x => ?_
  rw [chk_pos (by constructor <;> omega)]
  refine bcg fun y => ?_
  unfold words_Index_numbers_s2_l1
  exact nlt_l1 hn a.2 0 y rfl (Nat.zero_le _) hE
end Go.Proofs.YtdiieblgeaehpaaGreatDoor
