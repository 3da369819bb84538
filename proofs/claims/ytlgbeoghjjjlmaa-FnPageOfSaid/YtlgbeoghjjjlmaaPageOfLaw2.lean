/- The law on the page of a drawn line answers true: FnPageOf. Conditions: the code is a slice of bytes. -/
import Derived.Test.YtlgbeoghjjjlmaaPageOf
import Derived.Test.YtlgbeoghjjjlmaaEndsDraw
namespace Go.Proofs.Ytlgbeoghjjjlmaa
open Go.RowKit

def EndsIntOut (w : World) (e : Ending) (w' : World) : Prop :=
  ∃ (A : Option Addr) (n c : Nat) (xs : List Int) (s : Int), e = .returned (.tuple #[.slice A n c, .int .i64 s]) ∧ xs.length = n ∧ n ≤ 60 ∧ (∀ x ∈ xs, -1 ≤ x ∧ x ≤ 61) ∧ Row w' w'.heap.size 1 A n (inc xs) ∧ Below w.heap.size w w'

set_option maxHeartbeats 1000000 in
theorem DrawPageOf_any (A : Option Addr) (n cap : Nat) (cs : List Int) (w : World) (hc : Code w A n cap cs) :
    Calls Try.prog 17 #[.slice A n cap] w (EndsIntOut w) := by
  obtain ⟨h1, h2, h3, h4, h5⟩ := hc
  have HH := Lib.hid h4; clear h4
  go_enter Try.func17, Try.ntmps17
  go_wp2_with fail
  ((with_reducible refine (newReader_any _ _ _ cs _ h1 h2 h3 HH.out h5).mono ?_); rintro e w1 ⟨rfl, hr1, hb1⟩)
  have hs1 := hb1.size
  go_wp2_with fail
  ((with_reducible refine (pick_any _ _ _ _ hr1 (by omega)).mono ?_); rintro e w2 ⟨x, rfl, hx0, hx1, hr2, ho2⟩)
  have hx2 := hx1 (by omega)
  clear hx1
  obtain ⟨k, rfl⟩ := Int.eq_ofNat_of_zero_le hx0
  have hb2 : Below w.heap.size w w2 := hb1.trans (below_of_only ho2 (Nat.le_refl _) hs1)
  have hs2 := hb2.size
  have e1 : (1 : Int) + (k : Int) = ((k + 1 : Nat) : Int) := by omega
  have E1 := Lib.hid e1
  clear e1
  go_wp2_with fail
  rw [E1.out]
  ((with_reducible refine (someEnds_any _ _ (k + 1) _ hr2 (by omega) (by omega)).mono ?_); rintro e w3 ⟨B, m, c, xs, p', rfl, hx, hm, hxb, hrow, hA, hp, hr3, ho3⟩)
  have HX := Lib.hid hx; clear hx
  have HXB := Lib.hid hxb; clear hxb
  have hb3 : Below w.heap.size w w3 := hb2.trans (below_of_only ho3 (Nat.le_refl _) hs2)
  have hs3 := hb3.size
  go_wp2_with fail
  ((with_reducible refine (pick_any _ _ _ _ hr3 (by omega)).mono ?_); rintro e w4 ⟨y, rfl, hy0, hy1, hr4, ho4⟩)
  have hy2 := hy1 (by omega)
  clear hy1
  go_wp2_with fail
  ((with_reducible refine (pick_any _ _ _ _ hr4 (by omega)).mono ?_); rintro e w5 ⟨z, rfl, hz0, hz1, hr5, ho5⟩)
  have hz2 := hz1 (by omega)
  clear hz1
  have ho := only_trans ho4 ho5
  have hb5 : Below w.heap.size w w5 := hb3.trans (below_of_only ho (Nat.le_refl _) hs3)
  have hrow5 := (hrow.only ho hA (Nat.le_refl _)).more ho.size
  go_wp2
  go_ret2
  exact ⟨B, m, c, xs, y - z, rfl, HX.out, hm, HXB.out, hrow5, hb5⟩

set_option maxHeartbeats 2000000 in
theorem law_PageOf (A : Option Addr) (n cap : Nat) (cs : List Int) (w : World) (hc : Code w A n cap cs) :
    Calls Try.prog 4 #[.slice A n cap] w fun e w' => e = .returned (.bool true) ∧ Below w.heap.size w w' := by
  have hn := hc.1
  unfold maxLen at hn
  by_cases hbig : 1048576 < n
  · go_enter Try.func4, Try.ntmps4
    go_wp2
    go_returns
    exact ⟨rfl, Below.refl _ _⟩
  go_enter Try.func4, Try.ntmps4
  go_wp2_with fail
  ((with_reducible refine (DrawPageOf_any _ _ _ cs _ hc).mono ?_); rintro e w1 ⟨B, m, c, xs, s, rfl, hx, hm, hxb, hr1, hb1⟩)
  have HX := Lib.hid hx; clear hx
  have HXB := Lib.hid (fun x hx => (⟨by have := hxb x hx; omega, by have := hxb x hx; omega⟩ : -9223372036854775808 ≤ x ∧ x ≤ 9223372036854775807)); clear hxb
  have hmx : m ≤ maxLen := by unfold maxLen; omega
  have hz1 := hb1.size
  obtain ⟨v, hv⟩ : ∃ v, pageOf xs s = v := ⟨_, rfl⟩
  have HV := Lib.hid hv; clear hv
  go_wp2_with fail
  ((with_reducible refine (pageOf_i _ _ _ _ xs _ HX.out hmx ?_ HXB.out).mono ?_); (exact hr1); rintro e w2 ⟨rfl, hb2⟩)
  rw [HV.out]
  have hr2 := hr1.then_ hb2
  have hz2 := hb2.size
  go_wp2_with fail
  ((with_reducible refine (pageOf_s _ _ _ _ xs _ HX.out hmx ?_).mono ?_); (exact hr2); rintro e w3 ⟨rfl, hb3⟩)
  rw [HV.out]
  have hr3 := hr2.then_ hb3
  have hz3 := hb3.size
  have hB3 : Below w.heap.size w w3 := by (repeat' (first | (with_reducible exact Below.refl _ _) | (with_reducible assumption) | (with_reducible refine Below.alloc ?_ ?_ _) | (with_reducible refine Below.drew ?_) | (with_reducible refine below_drewN ?_ _) | (with_reducible refine Below.setCell ?_ ?_ _) | (with_reducible refine below_then ?_ ?_ (by with_reducible assumption)) | (with_reducible exact Nat.le_refl _) | go_size | (simp only [*]; done)))
  by_cases hneg : v < 0
  · go_wp2_with fail
    ((with_reducible refine (pageOf_s _ _ _ _ xs _ HX.out hmx ?_).mono ?_); (exact hr3); rintro e w4 ⟨rfl, hb4⟩)
    rw [HV.out]
    go_wp2_with fail
    go_returns
    exact ⟨rfl, below_then (Nat.le_refl _) hB3 hb4⟩
  obtain ⟨q, hq, hql, hlow, hhigh⟩ := pageOf_spec HV.out (by omega)
  rw [HX.out] at hql hhigh
  have HLO := Lib.hid hlow
  have HHI := Lib.hid hhigh
  clear hlow hhigh
  subst hq
  have HR3 := Lib.hid hr3
  clear hr1 hr2 hr3
  go_wp2_with fail
  go_loopg [6, 7] m (fun k cnt i wr => ∃ j : Nat, j ≤ m ∧ k = m - j ∧ i = .int .i64 j ∧ cnt = .int .i64 ((min j q : Nat) : Int) ∧ Below w3.heap.size w3 wr)
  case atStart => exact ⟨0, Nat.zero_le _, rfl, rfl, by simp, Below.refl _ _⟩
  case round =>
    obtain ⟨j, hj, hk, rfl, rfl, hbel⟩ := hrel
    have HK := Lib.hid hk; clear hk
    have hsz := hbel.size
    by_cases hlt : j < m
    · obtain ⟨b, off, rfl, hb, hc⟩ := HR3.out.at1 (by omega)
      have c0 : wr.cell? ⟨b, off + j, none⟩ = _ := (hbel.cell (p := ⟨b, off + j, none⟩) hb).trans (hc j hlt)
      obtain ⟨x, hx⟩ : ∃ x, xs.getD j default = x := ⟨_, rfl⟩
      simp only [inc, hx] at c0
      have Hx := Lib.hid hx; clear hx hc
      by_cases hjq : j < q
      · have hle := HLO.out j hjq
        rw [Hx.out] at hle
        have e1 : min j q = j := by omega
        have e2 : min (j + 1) q = j + 1 := by omega
        rw [e1]
        have E2 := Lib.hid e2
        clear e1 e2
        go_wp2_with fail
        go_roundg (m - (j + 1))
        case measure => have := HK.out; omega
        case rel => exact ⟨j + 1, by omega, rfl, by go_num, by rw [E2.out]; go_num, by (repeat' (first | (with_reducible exact Below.refl _ _) | (with_reducible assumption) | (with_reducible refine Below.alloc ?_ ?_ _) | (with_reducible refine Below.drew ?_) | (with_reducible refine below_drewN ?_ _) | (with_reducible refine Below.setCell ?_ ?_ _) | (with_reducible refine below_then ?_ ?_ (by with_reducible assumption)) | (with_reducible exact Nat.le_refl _) | go_size | (simp only [*]; done)))⟩
      · have hgt := HHI.out j (by omega) hlt
        rw [Hx.out] at hgt
        have e1 : min j q = q := by omega
        have e2 : min (j + 1) q = q := by omega
        rw [e1]
        have E2 := Lib.hid e2
        clear e1 e2
        go_wp2_with fail
        go_roundg (m - (j + 1))
        case measure => have := HK.out; omega
        case rel => exact ⟨j + 1, by omega, rfl, by go_num, by rw [E2.out], by (repeat' (first | (with_reducible exact Below.refl _ _) | (with_reducible assumption) | (with_reducible refine Below.alloc ?_ ?_ _) | (with_reducible refine Below.drew ?_) | (with_reducible refine below_drewN ?_ _) | (with_reducible refine Below.setCell ?_ ?_ _) | (with_reducible refine below_then ?_ ?_ (by with_reducible assumption)) | (with_reducible exact Nat.le_refl _) | go_size | (simp only [*]; done)))⟩
    · have e1 : min j q = q := by omega
      rw [e1]
      clear e1
      obtain ⟨b, off, rfl, hb, hc'⟩ := HR3.out.at1 (by omega)
      have c0 : wr.cell? ⟨b, off + q, none⟩ = _ := (hbel.cell (p := ⟨b, off + q, none⟩) hb).trans (hc' q hql)
      have hgt := HHI.out q (Nat.le_refl _) hql
      obtain ⟨x, hx⟩ : ∃ x, xs.getD q default = x := ⟨_, rfl⟩
      rw [hx] at hgt
      simp only [inc, hx] at c0
      clear hc' hx
      have a1 : (0 : Int) ≤ (q : Int) := by omega
      have a2 : (q : Int) < (m : Int) := by omega
      have a3 : decide (s < x) = true := decide_eq_true hgt
      go_wp2_with fail
      (try go_quiet (fail))
      go_wp2_with fail
      go_returns
      exact ⟨rfl, by first | exact below_then (Nat.le_refl _) hB3 hbel | exact below_drewN (below_then (Nat.le_refl _) hB3 hbel) _⟩
end Go.Proofs.Ytlgbeoghjjjlmaa
