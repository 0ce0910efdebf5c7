/- Contracts in the form of generated walks. -/
import Derived.Test.YtidedcbaahiplaaC7
import Derived.Test.YtidedcbaahiplaaEngL
import Derived.KernelRfl
namespace Go.Proofs.Ytidedcbaahiplaa
open Go Go.E Go.RowKit
theorem in_l (w : World) (H : PH) (hH : Le H (hp w)) {a b c : Int}  :
    Ok Try.prog 29 [.int .i64 a, .int .i64 b, .int .i64 c] w (fun v w' => Ext w w' ∧ v = .bool (decide (b ≤ a ∧ a ≤ c))) := in_ok w
theorem rat_l (w : World) (H : PH) (hH : Le H (hp w)) {a b : Int}  :
    Ok Try.prog 23 [.int .i64 a, .int .i64 b] w (fun v w' => Ext w w' ∧ v = .agg #[.int .i64 a, .int .i64 b]) := rat_ok w
theorem same_l (w : World) (H : PH) (hH : Le H (hp w)) {u v : Value} {a b : List UInt8} (ha : Vec .byte H u a) (hb : Vec .byte H v b) :
    Ok Try.prog 24 [u, v] w (fun v w' => Ext w w' ∧ v = .bool (decide (a = b))) := same_ok w (ha.mono hH) (hb.mono hH)
theorem ints_l (w : World) (H : PH) (hH : Le H (hp w)) {u v : Value} {a b : List Int} (ha : Vec (.int .i64) H u a) (hb : Vec (.int .i64) H v b) :
    Ok Try.prog 31 [u, v] w (fun v w' => Ext w w' ∧ v = .bool (decide (a = b))) := ints_ok w (ha.mono hH) (hb.mono hH)
theorem times_l (w : World) (H : PH) (hH : Le H (hp w)) {a b : UInt8}  :
    Ok Try.prog 56 [.int .u8 (a.toNat : Int), .int .u8 (b.toNat : Int)] w (fun v w' => Ext w w' ∧ v = .int .u8 ((M.gmul a b).toNat : Int)) := times_ok w
theorem quo_l (w : World) (H : PH) (hH : Le H (hp w)) {a b : UInt8}  :
    Ok Try.prog 58 [.int .u8 (a.toNat : Int), .int .u8 (b.toNat : Int)] w (fun v w' => Ext w w' ∧ v = .int .u8 ((M.gquo a b).toNat : Int)) := quo_ok w
theorem valueat_l (w : World) (H : PH) (hH : Le H (hp w)) {u : Value} {l : List UInt8} {x : UInt8} (ha : Vec .byte H u l) :
    Ok Try.prog 41 [u, .int .u8 (x.toNat : Int)] w (fun v w' => Ext w w' ∧ v = .int .u8 ((M.va l x).toNat : Int)) := valueat_ok w (ha.mono hH)
theorem samesh_l (w : World) (H : PH) (hH : Le H (hp w)) {u v : Value} {a b : List M.Sh} (ha : Vec shr H u a) (hb : Vec shr H v b) :
    Ok Try.prog 15 [u, v] w (fun v w' => Ext w w' ∧ v = .bool (decide (a = b))) := samesh_ok w (ha.mono hH) (hb.mono hH)
theorem opens_l (w : World) (H : PH) (hH : Le H (hp w))   :
    Ok Try.prog 14 [] w (fun v w' => Ext w w' ∧ v = .bool true) := opens_ok w
theorem range_l (w : World) (H : PH) (hH : Le H (hp w)) {a : Int × Int} {n lo hi ix : Int}  :
    Ok Try.prog 20 [.agg #[.int .i64 a.1, .int .i64 a.2], .int .i64 n, .int .i64 lo, .int .i64 hi, .int .i64 ix] w (fun v w' => Ext w w' ∧ v = .agg #[.int .i64 (M.rgF a n lo hi ix).1, .int .i64 (M.rgF a n lo hi ix).2]) := range_ok w (c := a.1) (j := a.2)
theorem join_l (w : World) (H : PH) (hH : Le H (hp w)) {u : Value} {l : List M.Sh} {m : Int} (ha : Vec shr H u l) :
    Ok Try.prog 17 [u, .int .i64 m] w (fun v w' => Ext w w' ∧ ∃ u0, v = .tuple #[u0, .agg #[.int .i64 (M.jnF l m).1, .int .i64 (M.jnF l m).2]] ∧ OwnH 5 .byte H w w' u0 (M.jn l m)) := (join_ok w (ha.mono hH)).mono fun v w' ⟨hx, u, e, ho⟩ => ⟨hx, u, e, ho.toH⟩
theorem split_l (w : World) (H : PH) (hH : Le H (hp w)) {u v : Value} {a b : List UInt8} {m k : Int} (ha : Vec .byte H u a) (hb : Vec .byte H v b) :
    Ok Try.prog 12 [u, .int .i64 m, .int .i64 k, v] w (fun v w' => Ext w w' ∧ ∃ u0, v = .tuple #[u0, .agg #[.int .i64 (M.spF a m k b).1, .int .i64 (M.spF a m k b).2]] ∧ OwnH 32 shr H w w' u0 (M.spA a m k b)) := (split_ok w (ha.mono hH) (hb.mono hH)).mono fun v w' ⟨hx, u, e, ho⟩ => ⟨hx, u, e, ho.toH⟩
theorem renew_l (w : World) (H : PH) (hH : Le H (hp w)) {u : Value} {l : List M.Sh} {m : Int} {v : Value} {b : List UInt8} (ha : Vec shr H u l) (hb : Vec .byte H v b) :
    Ok Try.prog 33 [u, .int .i64 m, v] w (fun v w' => Ext w w' ∧ ∃ u0, v = .tuple #[u0, .agg #[.int .i64 (M.rnF l m b).1, .int .i64 (M.rnF l m b).2]] ∧ OwnH 32 shr H w w' u0 (M.rnA l m b)) := (renew_ok w (ha.mono hH) (hb.mono hH)).mono fun v w' ⟨hx, u, e, ho⟩ => ⟨hx, u, e, ho.toH⟩
theorem explain_l (w : World) (H : PH) (hH : Le H (hp w)) {u : Value} {l : List M.Sh} {m : Int} {v : Value} {b : List UInt8} (ha : Vec shr H u l) (hb : Vec .byte H v b) :
    Ok Try.prog 35 [u, .int .i64 m, v] w (fun v w' => Ext w w' ∧ ∃ u0, v = .tuple #[u0, .agg #[.int .i64 (M.exF l m b).1, .int .i64 (M.exF l m b).2]] ∧ OwnH 5 .byte H w w' u0 (M.exA l m b)) := (explain_ok w (ha.mono hH) (hb.mono hH)).mono fun v w' ⟨hx, u, e, ho⟩ => ⟨hx, u, e, ho.toH⟩
theorem sat_l (w : World) (H : PH) (hH : Le H (hp w)) {u : Value} {l : List M.Sh} {m : Int} {k : Int} (ha : Vec shr H u l) :
    Ok Try.prog 18 [u, .int .i64 m, .int .i64 k] w (fun v w' => Ext w w' ∧ ∃ u0, v = .tuple #[.agg #[.int .i64 (M.axK l m k), u0], .agg #[.int .i64 (M.axF l m k).1, .int .i64 (M.axF l m k).2]] ∧ OwnH 5 .byte H w w' u0 (M.axD l m k)) := (sat_ok w (ha.mono hH)).mono fun v w' ⟨hx, u, e, ho⟩ => ⟨hx, u, e, ho.toH⟩
theorem mend_l (w : World) (H : PH) (hH : Le H (hp w)) {u : Value} {l : List M.Sh} {m : Int} (ha : Vec shr H u l) :
    Ok Try.prog 30 [u, .int .i64 m] w (fun v w' => Ext w w' ∧ ∃ u0 u1, v = .tuple #[u0, u1, .agg #[.int .i64 (M.mnF l m).1, .int .i64 (M.mnF l m).2]] ∧ Vec .byte (un H (nw w w')) u0 (M.mnS l m) ∧ Vec (.int .i64) (un H (nw w w')) u1 (M.mnB l m)) := (mend_ok w (ha.mono hH)).mono fun v w' ⟨hx, u, u', e, h1, h2⟩ => ⟨hx, u, u', e, h1.mono le_un_right, h2.mono le_un_right⟩
def digitsL (b c : Int) : Option (List Int) := Go.L.chk (0 ≤ b ∧ b ≤ 9223372036854775807 ∧ 0 ≤ c ∧ c ≤ 1000) (some (M.dgs b.toNat c.toNat))
theorem digits_l (w : World) (H : PH) (hH : Le H (hp w)) {b c : Int} {r : List Int} (h : digitsL b c = some r) : Ok Try.prog 28 [.int .i64 b, .int .i64 c] w (fun v w' => Ext w w' ∧ ∃ u0, v = u0 ∧ OwnH 3 (.int .i64) H w w' u0 r) := by
  obtain ⟨hk, h⟩ := Go.L.chk_some h
  obtain rfl := Option.some.inj h
  have h1 := digits_ok w (b := b.toNat) (c := c.toNat) (by omega) (by omega)
  rw [Int.toNat_of_nonneg hk.1, Int.toNat_of_nonneg hk.2.2.1] at h1
  exact h1.mono fun v w' ⟨hx, ho⟩ => ⟨hx, v, rfl, ho.toH⟩
def numberL (l : List Int) : Option Int := open Classical in Go.L.chk ((∀ x ∈ l, x = 0 ∨ x = 1) ∧ l.length ≤ 60) (some (((M.nmF l l.length).toNat : Nat) : Int))
theorem number_l (w : World) (H : PH) (hH : Le H (hp w)) {u : Value} {l : List Int} (ha : Vec (.int .i64) H u l) {r : Int} (h : numberL l = some r) : Ok Try.prog 27 [u] w (fun v w' => Ext w w' ∧ v = .int .i64 r) := by
  obtain ⟨hk, h⟩ := Go.L.chk_some h
  obtain rfl := Option.some.inj h
  exact number_ok w (ha.mono hH) hk.1 hk.2
def chosenL (l : List M.Sh) (b : Int) : Option (List M.Sh) := Go.L.chk (l.length ≤ 100 ∧ 0 ≤ b ∧ b ≤ 9223372036854775807) (some (M.chs l b.toNat l.length))
theorem chosen_l (w : World) (H : PH) (hH : Le H (hp w)) {u : Value} {l : List M.Sh} {b : Int} (ha : Vec shr H u l) {r : List M.Sh} (h : chosenL l b = some r) : Ok Try.prog 26 [u, .int .i64 b] w (fun v w' => Ext w w' ∧ ∃ u0, v = u0 ∧ Vec shr (un H (nw w w')) u0 r) := by
  obtain ⟨hk, h⟩ := Go.L.chk_some h
  obtain rfl := Option.some.inj h
  have h1 := chosen_ok w hH (b := b.toNat) ha hk.1 (by omega)
  rw [Int.toNat_of_nonneg hk.2.1] at h1
  exact h1.mono fun v w' ⟨hx, ho⟩ => ⟨hx, v, rfl, ho⟩
def shareL (S : List UInt8) (m : Int) (R : List UInt8) (k : Int) : Option M.Sh := Go.L.chk (S.length ≤ 4096 ∧ 1 ≤ m ∧ m ≤ 10 ∧ R.length = (m.toNat - 1) * S.length ∧ 0 ≤ k) (some (k, M.shd S m.toNat R (M.kb k)))
theorem share_l (w : World) (H : PH) (hH : Le H (hp w)) {u v : Value} {S R : List UInt8} {m k : Int} (ha : Vec .byte H u S) (hb : Vec .byte H v R) {r : M.Sh} (h : shareL S m R k = some r) : Ok Try.prog 16 [u, .int .i64 m, v, .int .i64 k] w (fun v w' => Ext w w' ∧ ∃ u0, v = .agg #[.int .i64 r.1, u0] ∧ OwnH 5 .byte H w w' u0 r.2) := by
  obtain ⟨hk, h⟩ := Go.L.chk_some h
  obtain rfl := Option.some.inj h
  have h1 := rshare_ok w (m := m.toNat) (k := k) (ha.mono hH) (hb.mono hH) hk.1 (by omega) (by omega) hk.2.2.2.1 hk.2.2.2.2
  rw [Int.toNat_of_nonneg (by omega)] at h1
  exact h1.mono fun v w' ⟨hx, u, e, ho⟩ => ⟨hx, u, e, ho.toH⟩
end Go.Proofs.Ytidedcbaahiplaa
