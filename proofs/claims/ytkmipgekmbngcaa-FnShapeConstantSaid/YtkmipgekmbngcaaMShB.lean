/- A valid item: validItem and isForced of the program and validItem of the reference are what the plain functions say. No condition. -/
import Derived.Test.YtkmipgekmbngcaaMShA
import Derived.KernelRfl
namespace Go.Proofs.Ytkmipgekmbngcaa
open Go.RowKit

set_option maxHeartbeats 2000000 in
theorem validItem_i (k a b c p : Int) (f : Bool) (w : World) :
    Calls Try.prog 71 #[.agg #[.int .i64 k, .int .i64 a, .int .i64 b, .int .i64 c, .int .i64 p, .bool f]] w fun e w' => e = .returned (.bool (itemOk ⟨k, a, b, c, p, f⟩)) ∧ Below w.heap.size w w' := by
  by_cases k1 : k = 1
  · subst k1
    rcases h1 : inR a 0 1000 with _ | _
    · skip
      have e : itemOk ⟨1, a, b, c, p, f⟩ = false := by simp [itemOk, h1]
      rw [e]; clear e
      go_enter Try.func71, Try.ntmps71
      go_wp2_with (go_at_call 40; refine (within_any _ _ _ _).mono ?_; rintro e w' ⟨rfl, rfl⟩)
      go_returns
      exact ⟨rfl, by (repeat' (first | (with_reducible exact Below.refl _ _) | (with_reducible assumption) | (with_reducible refine Below.alloc ?_ ?_ _) | (with_reducible refine Below.drew ?_) | (with_reducible refine below_drewN ?_ _) | (with_reducible refine Below.setCell ?_ ?_ _) | (with_reducible refine below_then ?_ ?_ (by with_reducible assumption)) | (with_reducible exact Nat.le_refl _) | go_size | (simp only [*]; done)))⟩
    · skip
      rcases h2 : (b == 0) with _ | _
      · skip
        have e : itemOk ⟨1, a, b, c, p, f⟩ = false := by simp [itemOk, h1, h2]
        rw [e]; clear e
        go_enter Try.func71, Try.ntmps71
        go_wp2_with (go_at_call 40; refine (within_any _ _ _ _).mono ?_; rintro e w' ⟨rfl, rfl⟩)
        go_returns
        exact ⟨rfl, by (repeat' (first | (with_reducible exact Below.refl _ _) | (with_reducible assumption) | (with_reducible refine Below.alloc ?_ ?_ _) | (with_reducible refine Below.drew ?_) | (with_reducible refine below_drewN ?_ _) | (with_reducible refine Below.setCell ?_ ?_ _) | (with_reducible refine below_then ?_ ?_ (by with_reducible assumption)) | (with_reducible exact Nat.le_refl _) | go_size | (simp only [*]; done)))⟩
      · skip
        rcases h3 : (c == 0) with _ | _
        · skip
          have e : itemOk ⟨1, a, b, c, p, f⟩ = false := by simp [itemOk, h1, h2, h3]
          rw [e]; clear e
          go_enter Try.func71, Try.ntmps71
          go_wp2_with (go_at_call 40; refine (within_any _ _ _ _).mono ?_; rintro e w' ⟨rfl, rfl⟩)
          go_returns
          exact ⟨rfl, by (repeat' (first | (with_reducible exact Below.refl _ _) | (with_reducible assumption) | (with_reducible refine Below.alloc ?_ ?_ _) | (with_reducible refine Below.drew ?_) | (with_reducible refine below_drewN ?_ _) | (with_reducible refine Below.setCell ?_ ?_ _) | (with_reducible refine below_then ?_ ?_ (by with_reducible assumption)) | (with_reducible exact Nat.le_refl _) | go_size | (simp only [*]; done)))⟩
        · skip
          rcases h4 : (p == 0) with _ | _
          · skip
            have e : itemOk ⟨1, a, b, c, p, f⟩ = false := by simp [itemOk, h1, h2, h3, h4]
            rw [e]; clear e
            go_enter Try.func71, Try.ntmps71
            go_wp2_with (go_at_call 40; refine (within_any _ _ _ _).mono ?_; rintro e w' ⟨rfl, rfl⟩)
            go_returns
            exact ⟨rfl, by (repeat' (first | (with_reducible exact Below.refl _ _) | (with_reducible assumption) | (with_reducible refine Below.alloc ?_ ?_ _) | (with_reducible refine Below.drew ?_) | (with_reducible refine below_drewN ?_ _) | (with_reducible refine Below.setCell ?_ ?_ _) | (with_reducible refine below_then ?_ ?_ (by with_reducible assumption)) | (with_reducible exact Nat.le_refl _) | go_size | (simp only [*]; done)))⟩
          · skip
            rcases h5 : f with _ | _
            · subst h5
              have e : itemOk ⟨1, a, b, c, p, false⟩ = true := by simp [itemOk, h1, h2, h3, h4]
              rw [e]; clear e
              go_enter Try.func71, Try.ntmps71
              go_wp2_with (go_at_call 40; refine (within_any _ _ _ _).mono ?_; rintro e w' ⟨rfl, rfl⟩)
              go_returns
              exact ⟨rfl, by (repeat' (first | (with_reducible exact Below.refl _ _) | (with_reducible assumption) | (with_reducible refine Below.alloc ?_ ?_ _) | (with_reducible refine Below.drew ?_) | (with_reducible refine below_drewN ?_ _) | (with_reducible refine Below.setCell ?_ ?_ _) | (with_reducible refine below_then ?_ ?_ (by with_reducible assumption)) | (with_reducible exact Nat.le_refl _) | go_size | (simp only [*]; done)))⟩
            · subst h5
              have e : itemOk ⟨1, a, b, c, p, true⟩ = false := by simp [itemOk, h1, h2, h3, h4]
              rw [e]; clear e
              go_enter Try.func71, Try.ntmps71
              go_wp2_with (go_at_call 40; refine (within_any _ _ _ _).mono ?_; rintro e w' ⟨rfl, rfl⟩)
              go_returns
              exact ⟨rfl, by (repeat' (first | (with_reducible exact Below.refl _ _) | (with_reducible assumption) | (with_reducible refine Below.alloc ?_ ?_ _) | (with_reducible refine Below.drew ?_) | (with_reducible refine below_drewN ?_ _) | (with_reducible refine Below.setCell ?_ ?_ _) | (with_reducible refine below_then ?_ ?_ (by with_reducible assumption)) | (with_reducible exact Nat.le_refl _) | go_size | (simp only [*]; done)))⟩
  by_cases k2 : k = 2
  · subst k2
    rcases h1 : inR a 0 1000 with _ | _
    · skip
      have e : itemOk ⟨2, a, b, c, p, f⟩ = false := by simp [itemOk, h1]
      rw [e]; clear e
      go_enter Try.func71, Try.ntmps71
      go_wp2_with (go_at_call 40; refine (within_any _ _ _ _).mono ?_; rintro e w' ⟨rfl, rfl⟩)
      go_returns
      exact ⟨rfl, by (repeat' (first | (with_reducible exact Below.refl _ _) | (with_reducible assumption) | (with_reducible refine Below.alloc ?_ ?_ _) | (with_reducible refine Below.drew ?_) | (with_reducible refine below_drewN ?_ _) | (with_reducible refine Below.setCell ?_ ?_ _) | (with_reducible refine below_then ?_ ?_ (by with_reducible assumption)) | (with_reducible exact Nat.le_refl _) | go_size | (simp only [*]; done)))⟩
    · skip
      rcases h2 : inR b 0 1000 with _ | _
      · skip
        have e : itemOk ⟨2, a, b, c, p, f⟩ = false := by simp [itemOk, h1, h2]
        rw [e]; clear e
        go_enter Try.func71, Try.ntmps71
        go_wp2_with (go_at_call 40; refine (within_any _ _ _ _).mono ?_; rintro e w' ⟨rfl, rfl⟩)
        go_returns
        exact ⟨rfl, by (repeat' (first | (with_reducible exact Below.refl _ _) | (with_reducible assumption) | (with_reducible refine Below.alloc ?_ ?_ _) | (with_reducible refine Below.drew ?_) | (with_reducible refine below_drewN ?_ _) | (with_reducible refine Below.setCell ?_ ?_ _) | (with_reducible refine below_then ?_ ?_ (by with_reducible assumption)) | (with_reducible exact Nat.le_refl _) | go_size | (simp only [*]; done)))⟩
      · skip
        rcases h3 : inR c 0 a with _ | _
        · skip
          have e : itemOk ⟨2, a, b, c, p, f⟩ = false := by simp [itemOk, h1, h2, h3]
          rw [e]; clear e
          go_enter Try.func71, Try.ntmps71
          go_wp2_with (go_at_call 40; refine (within_any _ _ _ _).mono ?_; rintro e w' ⟨rfl, rfl⟩)
          go_returns
          exact ⟨rfl, by (repeat' (first | (with_reducible exact Below.refl _ _) | (with_reducible assumption) | (with_reducible refine Below.alloc ?_ ?_ _) | (with_reducible refine Below.drew ?_) | (with_reducible refine below_drewN ?_ _) | (with_reducible refine Below.setCell ?_ ?_ _) | (with_reducible refine below_then ?_ ?_ (by with_reducible assumption)) | (with_reducible exact Nat.le_refl _) | go_size | (simp only [*]; done)))⟩
        · skip
          rcases h4 : (p == 0) with _ | _
          · skip
            have e : itemOk ⟨2, a, b, c, p, f⟩ = false := by simp [itemOk, h1, h2, h3, h4]
            rw [e]; clear e
            go_enter Try.func71, Try.ntmps71
            go_wp2_with (go_at_call 40; refine (within_any _ _ _ _).mono ?_; rintro e w' ⟨rfl, rfl⟩)
            go_returns
            exact ⟨rfl, by (repeat' (first | (with_reducible exact Below.refl _ _) | (with_reducible assumption) | (with_reducible refine Below.alloc ?_ ?_ _) | (with_reducible refine Below.drew ?_) | (with_reducible refine below_drewN ?_ _) | (with_reducible refine Below.setCell ?_ ?_ _) | (with_reducible refine below_then ?_ ?_ (by with_reducible assumption)) | (with_reducible exact Nat.le_refl _) | go_size | (simp only [*]; done)))⟩
          · skip
            rcases h5 : f with _ | _
            · subst h5
              have e : itemOk ⟨2, a, b, c, p, false⟩ = true := by simp [itemOk, h1, h2, h3, h4]
              rw [e]; clear e
              go_enter Try.func71, Try.ntmps71
              go_wp2_with (go_at_call 40; refine (within_any _ _ _ _).mono ?_; rintro e w' ⟨rfl, rfl⟩)
              go_returns
              exact ⟨rfl, by (repeat' (first | (with_reducible exact Below.refl _ _) | (with_reducible assumption) | (with_reducible refine Below.alloc ?_ ?_ _) | (with_reducible refine Below.drew ?_) | (with_reducible refine below_drewN ?_ _) | (with_reducible refine Below.setCell ?_ ?_ _) | (with_reducible refine below_then ?_ ?_ (by with_reducible assumption)) | (with_reducible exact Nat.le_refl _) | go_size | (simp only [*]; done)))⟩
            · subst h5
              have e : itemOk ⟨2, a, b, c, p, true⟩ = false := by simp [itemOk, h1, h2, h3, h4]
              rw [e]; clear e
              go_enter Try.func71, Try.ntmps71
              go_wp2_with (go_at_call 40; refine (within_any _ _ _ _).mono ?_; rintro e w' ⟨rfl, rfl⟩)
              go_returns
              exact ⟨rfl, by (repeat' (first | (with_reducible exact Below.refl _ _) | (with_reducible assumption) | (with_reducible refine Below.alloc ?_ ?_ _) | (with_reducible refine Below.drew ?_) | (with_reducible refine below_drewN ?_ _) | (with_reducible refine Below.setCell ?_ ?_ _) | (with_reducible refine below_then ?_ ?_ (by with_reducible assumption)) | (with_reducible exact Nat.le_refl _) | go_size | (simp only [*]; done)))⟩
  by_cases k3 : k = 3
  · subst k3
    rcases h1 : inR a 0 1000 with _ | _
    · skip
      have e : itemOk ⟨3, a, b, c, p, f⟩ = false := by simp [itemOk, h1]
      rw [e]; clear e
      go_enter Try.func71, Try.ntmps71
      go_wp2_with (go_at_call 40; refine (within_any _ _ _ _).mono ?_; rintro e w' ⟨rfl, rfl⟩)
      go_returns
      exact ⟨rfl, by (repeat' (first | (with_reducible exact Below.refl _ _) | (with_reducible assumption) | (with_reducible refine Below.alloc ?_ ?_ _) | (with_reducible refine Below.drew ?_) | (with_reducible refine below_drewN ?_ _) | (with_reducible refine Below.setCell ?_ ?_ _) | (with_reducible refine below_then ?_ ?_ (by with_reducible assumption)) | (with_reducible exact Nat.le_refl _) | go_size | (simp only [*]; done)))⟩
    · skip
      rcases h2 : (b == 0) with _ | _
      · skip
        have e : itemOk ⟨3, a, b, c, p, f⟩ = false := by simp [itemOk, h1, h2]
        rw [e]; clear e
        go_enter Try.func71, Try.ntmps71
        go_wp2_with (go_at_call 40; refine (within_any _ _ _ _).mono ?_; rintro e w' ⟨rfl, rfl⟩)
        go_returns
        exact ⟨rfl, by (repeat' (first | (with_reducible exact Below.refl _ _) | (with_reducible assumption) | (with_reducible refine Below.alloc ?_ ?_ _) | (with_reducible refine Below.drew ?_) | (with_reducible refine below_drewN ?_ _) | (with_reducible refine Below.setCell ?_ ?_ _) | (with_reducible refine below_then ?_ ?_ (by with_reducible assumption)) | (with_reducible exact Nat.le_refl _) | go_size | (simp only [*]; done)))⟩
      · skip
        rcases h3 : (c == 0) with _ | _
        · skip
          have e : itemOk ⟨3, a, b, c, p, f⟩ = false := by simp [itemOk, h1, h2, h3]
          rw [e]; clear e
          go_enter Try.func71, Try.ntmps71
          go_wp2_with (go_at_call 40; refine (within_any _ _ _ _).mono ?_; rintro e w' ⟨rfl, rfl⟩)
          go_returns
          exact ⟨rfl, by (repeat' (first | (with_reducible exact Below.refl _ _) | (with_reducible assumption) | (with_reducible refine Below.alloc ?_ ?_ _) | (with_reducible refine Below.drew ?_) | (with_reducible refine below_drewN ?_ _) | (with_reducible refine Below.setCell ?_ ?_ _) | (with_reducible refine below_then ?_ ?_ (by with_reducible assumption)) | (with_reducible exact Nat.le_refl _) | go_size | (simp only [*]; done)))⟩
        · skip
          rcases h4 : inR p (-1000) 1000 with _ | _
          · skip
            have e : itemOk ⟨3, a, b, c, p, f⟩ = false := by simp [itemOk, h1, h2, h3, h4]
            rw [e]; clear e
            go_enter Try.func71, Try.ntmps71
            go_wp2_with (go_at_call 40; refine (within_any _ _ _ _).mono ?_; rintro e w' ⟨rfl, rfl⟩)
            go_returns
            exact ⟨rfl, by (repeat' (first | (with_reducible exact Below.refl _ _) | (with_reducible assumption) | (with_reducible refine Below.alloc ?_ ?_ _) | (with_reducible refine Below.drew ?_) | (with_reducible refine below_drewN ?_ _) | (with_reducible refine Below.setCell ?_ ?_ _) | (with_reducible refine below_then ?_ ?_ (by with_reducible assumption)) | (with_reducible exact Nat.le_refl _) | go_size | (simp only [*]; done)))⟩
          · skip
            have e : itemOk ⟨3, a, b, c, p, f⟩ = true := by simp [itemOk, h1, h2, h3, h4]
            rw [e]; clear e
            go_enter Try.func71, Try.ntmps71
            go_wp2_with (go_at_call 40; refine (within_any _ _ _ _).mono ?_; rintro e w' ⟨rfl, rfl⟩)
            go_returns
            exact ⟨rfl, by (repeat' (first | (with_reducible exact Below.refl _ _) | (with_reducible assumption) | (with_reducible refine Below.alloc ?_ ?_ _) | (with_reducible refine Below.drew ?_) | (with_reducible refine below_drewN ?_ _) | (with_reducible refine Below.setCell ?_ ?_ _) | (with_reducible refine below_then ?_ ?_ (by with_reducible assumption)) | (with_reducible exact Nat.le_refl _) | go_size | (simp only [*]; done)))⟩
  have e1 : (k == 1) = false := by simp [k1]
  have e2 : (k == 2) = false := by simp [k2]
  have e3 : (k == 3) = false := by simp [k3]
  have e : itemOk ⟨k, a, b, c, p, f⟩ = false := by simp [itemOk, k1, k2, k3]
  rw [e]; clear e
  go_enter Try.func71, Try.ntmps71
  go_wp2_with (go_at_call 40; refine (within_any _ _ _ _).mono ?_; rintro e w' ⟨rfl, rfl⟩)
  go_returns
  exact ⟨rfl, by (repeat' (first | (with_reducible exact Below.refl _ _) | (with_reducible assumption) | (with_reducible refine Below.alloc ?_ ?_ _) | (with_reducible refine Below.drew ?_) | (with_reducible refine below_drewN ?_ _) | (with_reducible refine Below.setCell ?_ ?_ _) | (with_reducible refine below_then ?_ ?_ (by with_reducible assumption)) | (with_reducible exact Nat.le_refl _) | go_size | (simp only [*]; done)))⟩

set_option maxHeartbeats 2000000 in
theorem validItem_s (k a b c p : Int) (f : Bool) (w : World) :
    Calls Try.prog 74 #[.agg #[.int .i64 k, .int .i64 a, .int .i64 b, .int .i64 c, .int .i64 p, .bool f]] w fun e w' => e = .returned (.bool (itemOk ⟨k, a, b, c, p, f⟩)) ∧ Below w.heap.size w w' := by
  by_cases k1 : k = 1
  · subst k1
    rcases h1 : inR a 0 1000 with _ | _
    · skip
      have e : itemOk ⟨1, a, b, c, p, f⟩ = false := by simp [itemOk, h1]
      rw [e]; clear e
      go_enter Try.func74, Try.ntmps74
      go_wp2_with (go_at_call 44; refine (inRange_any _ _ _ _).mono ?_; rintro e w' ⟨rfl, rfl⟩)
      go_returns
      exact ⟨rfl, by (repeat' (first | (with_reducible exact Below.refl _ _) | (with_reducible assumption) | (with_reducible refine Below.alloc ?_ ?_ _) | (with_reducible refine Below.drew ?_) | (with_reducible refine below_drewN ?_ _) | (with_reducible refine Below.setCell ?_ ?_ _) | (with_reducible refine below_then ?_ ?_ (by with_reducible assumption)) | (with_reducible exact Nat.le_refl _) | go_size | (simp only [*]; done)))⟩
    · skip
      rcases h2 : (b == 0) with _ | _
      · skip
        have e : itemOk ⟨1, a, b, c, p, f⟩ = false := by simp [itemOk, h1, h2]
        rw [e]; clear e
        go_enter Try.func74, Try.ntmps74
        go_wp2_with (go_at_call 44; refine (inRange_any _ _ _ _).mono ?_; rintro e w' ⟨rfl, rfl⟩)
        go_returns
        exact ⟨rfl, by (repeat' (first | (with_reducible exact Below.refl _ _) | (with_reducible assumption) | (with_reducible refine Below.alloc ?_ ?_ _) | (with_reducible refine Below.drew ?_) | (with_reducible refine below_drewN ?_ _) | (with_reducible refine Below.setCell ?_ ?_ _) | (with_reducible refine below_then ?_ ?_ (by with_reducible assumption)) | (with_reducible exact Nat.le_refl _) | go_size | (simp only [*]; done)))⟩
      · skip
        rcases h3 : (c == 0) with _ | _
        · skip
          have e : itemOk ⟨1, a, b, c, p, f⟩ = false := by simp [itemOk, h1, h2, h3]
          rw [e]; clear e
          go_enter Try.func74, Try.ntmps74
          go_wp2_with (go_at_call 44; refine (inRange_any _ _ _ _).mono ?_; rintro e w' ⟨rfl, rfl⟩)
          go_returns
          exact ⟨rfl, by (repeat' (first | (with_reducible exact Below.refl _ _) | (with_reducible assumption) | (with_reducible refine Below.alloc ?_ ?_ _) | (with_reducible refine Below.drew ?_) | (with_reducible refine below_drewN ?_ _) | (with_reducible refine Below.setCell ?_ ?_ _) | (with_reducible refine below_then ?_ ?_ (by with_reducible assumption)) | (with_reducible exact Nat.le_refl _) | go_size | (simp only [*]; done)))⟩
        · skip
          rcases h4 : (p == 0) with _ | _
          · skip
            have e : itemOk ⟨1, a, b, c, p, f⟩ = false := by simp [itemOk, h1, h2, h3, h4]
            rw [e]; clear e
            go_enter Try.func74, Try.ntmps74
            go_wp2_with (go_at_call 44; refine (inRange_any _ _ _ _).mono ?_; rintro e w' ⟨rfl, rfl⟩)
            go_returns
            exact ⟨rfl, by (repeat' (first | (with_reducible exact Below.refl _ _) | (with_reducible assumption) | (with_reducible refine Below.alloc ?_ ?_ _) | (with_reducible refine Below.drew ?_) | (with_reducible refine below_drewN ?_ _) | (with_reducible refine Below.setCell ?_ ?_ _) | (with_reducible refine below_then ?_ ?_ (by with_reducible assumption)) | (with_reducible exact Nat.le_refl _) | go_size | (simp only [*]; done)))⟩
          · skip
            rcases h5 : f with _ | _
            · subst h5
              have e : itemOk ⟨1, a, b, c, p, false⟩ = true := by simp [itemOk, h1, h2, h3, h4]
              rw [e]; clear e
              go_enter Try.func74, Try.ntmps74
              go_wp2_with (go_at_call 44; refine (inRange_any _ _ _ _).mono ?_; rintro e w' ⟨rfl, rfl⟩)
              go_returns
              exact ⟨rfl, by (repeat' (first | (with_reducible exact Below.refl _ _) | (with_reducible assumption) | (with_reducible refine Below.alloc ?_ ?_ _) | (with_reducible refine Below.drew ?_) | (with_reducible refine below_drewN ?_ _) | (with_reducible refine Below.setCell ?_ ?_ _) | (with_reducible refine below_then ?_ ?_ (by with_reducible assumption)) | (with_reducible exact Nat.le_refl _) | go_size | (simp only [*]; done)))⟩
            · subst h5
              have e : itemOk ⟨1, a, b, c, p, true⟩ = false := by simp [itemOk, h1, h2, h3, h4]
              rw [e]; clear e
              go_enter Try.func74, Try.ntmps74
              go_wp2_with (go_at_call 44; refine (inRange_any _ _ _ _).mono ?_; rintro e w' ⟨rfl, rfl⟩)
              go_returns
              exact ⟨rfl, by (repeat' (first | (with_reducible exact Below.refl _ _) | (with_reducible assumption) | (with_reducible refine Below.alloc ?_ ?_ _) | (with_reducible refine Below.drew ?_) | (with_reducible refine below_drewN ?_ _) | (with_reducible refine Below.setCell ?_ ?_ _) | (with_reducible refine below_then ?_ ?_ (by with_reducible assumption)) | (with_reducible exact Nat.le_refl _) | go_size | (simp only [*]; done)))⟩
  by_cases k2 : k = 2
  · subst k2
    rcases h1 : inR a 0 1000 with _ | _
    · skip
      have e : itemOk ⟨2, a, b, c, p, f⟩ = false := by simp [itemOk, h1]
      rw [e]; clear e
      go_enter Try.func74, Try.ntmps74
      go_wp2_with (go_at_call 44; refine (inRange_any _ _ _ _).mono ?_; rintro e w' ⟨rfl, rfl⟩)
      go_returns
      exact ⟨rfl, by (repeat' (first | (with_reducible exact Below.refl _ _) | (with_reducible assumption) | (with_reducible refine Below.alloc ?_ ?_ _) | (with_reducible refine Below.drew ?_) | (with_reducible refine below_drewN ?_ _) | (with_reducible refine Below.setCell ?_ ?_ _) | (with_reducible refine below_then ?_ ?_ (by with_reducible assumption)) | (with_reducible exact Nat.le_refl _) | go_size | (simp only [*]; done)))⟩
    · skip
      rcases h2 : inR b 0 1000 with _ | _
      · skip
        have e : itemOk ⟨2, a, b, c, p, f⟩ = false := by simp [itemOk, h1, h2]
        rw [e]; clear e
        go_enter Try.func74, Try.ntmps74
        go_wp2_with (go_at_call 44; refine (inRange_any _ _ _ _).mono ?_; rintro e w' ⟨rfl, rfl⟩)
        go_returns
        exact ⟨rfl, by (repeat' (first | (with_reducible exact Below.refl _ _) | (with_reducible assumption) | (with_reducible refine Below.alloc ?_ ?_ _) | (with_reducible refine Below.drew ?_) | (with_reducible refine below_drewN ?_ _) | (with_reducible refine Below.setCell ?_ ?_ _) | (with_reducible refine below_then ?_ ?_ (by with_reducible assumption)) | (with_reducible exact Nat.le_refl _) | go_size | (simp only [*]; done)))⟩
      · skip
        rcases h3 : inR c 0 a with _ | _
        · skip
          have e : itemOk ⟨2, a, b, c, p, f⟩ = false := by simp [itemOk, h1, h2, h3]
          rw [e]; clear e
          go_enter Try.func74, Try.ntmps74
          go_wp2_with (go_at_call 44; refine (inRange_any _ _ _ _).mono ?_; rintro e w' ⟨rfl, rfl⟩)
          go_returns
          exact ⟨rfl, by (repeat' (first | (with_reducible exact Below.refl _ _) | (with_reducible assumption) | (with_reducible refine Below.alloc ?_ ?_ _) | (with_reducible refine Below.drew ?_) | (with_reducible refine below_drewN ?_ _) | (with_reducible refine Below.setCell ?_ ?_ _) | (with_reducible refine below_then ?_ ?_ (by with_reducible assumption)) | (with_reducible exact Nat.le_refl _) | go_size | (simp only [*]; done)))⟩
        · skip
          rcases h4 : (p == 0) with _ | _
          · skip
            have e : itemOk ⟨2, a, b, c, p, f⟩ = false := by simp [itemOk, h1, h2, h3, h4]
            rw [e]; clear e
            go_enter Try.func74, Try.ntmps74
            go_wp2_with (go_at_call 44; refine (inRange_any _ _ _ _).mono ?_; rintro e w' ⟨rfl, rfl⟩)
            go_returns
            exact ⟨rfl, by (repeat' (first | (with_reducible exact Below.refl _ _) | (with_reducible assumption) | (with_reducible refine Below.alloc ?_ ?_ _) | (with_reducible refine Below.drew ?_) | (with_reducible refine below_drewN ?_ _) | (with_reducible refine Below.setCell ?_ ?_ _) | (with_reducible refine below_then ?_ ?_ (by with_reducible assumption)) | (with_reducible exact Nat.le_refl _) | go_size | (simp only [*]; done)))⟩
          · skip
            rcases h5 : f with _ | _
            · subst h5
              have e : itemOk ⟨2, a, b, c, p, false⟩ = true := by simp [itemOk, h1, h2, h3, h4]
              rw [e]; clear e
              go_enter Try.func74, Try.ntmps74
              go_wp2_with (go_at_call 44; refine (inRange_any _ _ _ _).mono ?_; rintro e w' ⟨rfl, rfl⟩)
              go_returns
              exact ⟨rfl, by (repeat' (first | (with_reducible exact Below.refl _ _) | (with_reducible assumption) | (with_reducible refine Below.alloc ?_ ?_ _) | (with_reducible refine Below.drew ?_) | (with_reducible refine below_drewN ?_ _) | (with_reducible refine Below.setCell ?_ ?_ _) | (with_reducible refine below_then ?_ ?_ (by with_reducible assumption)) | (with_reducible exact Nat.le_refl _) | go_size | (simp only [*]; done)))⟩
            · subst h5
              have e : itemOk ⟨2, a, b, c, p, true⟩ = false := by simp [itemOk, h1, h2, h3, h4]
              rw [e]; clear e
              go_enter Try.func74, Try.ntmps74
              go_wp2_with (go_at_call 44; refine (inRange_any _ _ _ _).mono ?_; rintro e w' ⟨rfl, rfl⟩)
              go_returns
              exact ⟨rfl, by (repeat' (first | (with_reducible exact Below.refl _ _) | (with_reducible assumption) | (with_reducible refine Below.alloc ?_ ?_ _) | (with_reducible refine Below.drew ?_) | (with_reducible refine below_drewN ?_ _) | (with_reducible refine Below.setCell ?_ ?_ _) | (with_reducible refine below_then ?_ ?_ (by with_reducible assumption)) | (with_reducible exact Nat.le_refl _) | go_size | (simp only [*]; done)))⟩
  by_cases k3 : k = 3
  · subst k3
    rcases h1 : inR a 0 1000 with _ | _
    · skip
      have e : itemOk ⟨3, a, b, c, p, f⟩ = false := by simp [itemOk, h1]
      rw [e]; clear e
      go_enter Try.func74, Try.ntmps74
      go_wp2_with (go_at_call 44; refine (inRange_any _ _ _ _).mono ?_; rintro e w' ⟨rfl, rfl⟩)
      go_returns
      exact ⟨rfl, by (repeat' (first | (with_reducible exact Below.refl _ _) | (with_reducible assumption) | (with_reducible refine Below.alloc ?_ ?_ _) | (with_reducible refine Below.drew ?_) | (with_reducible refine below_drewN ?_ _) | (with_reducible refine Below.setCell ?_ ?_ _) | (with_reducible refine below_then ?_ ?_ (by with_reducible assumption)) | (with_reducible exact Nat.le_refl _) | go_size | (simp only [*]; done)))⟩
    · skip
      rcases h2 : (b == 0) with _ | _
      · skip
        have e : itemOk ⟨3, a, b, c, p, f⟩ = false := by simp [itemOk, h1, h2]
        rw [e]; clear e
        go_enter Try.func74, Try.ntmps74
        go_wp2_with (go_at_call 44; refine (inRange_any _ _ _ _).mono ?_; rintro e w' ⟨rfl, rfl⟩)
        go_returns
        exact ⟨rfl, by (repeat' (first | (with_reducible exact Below.refl _ _) | (with_reducible assumption) | (with_reducible refine Below.alloc ?_ ?_ _) | (with_reducible refine Below.drew ?_) | (with_reducible refine below_drewN ?_ _) | (with_reducible refine Below.setCell ?_ ?_ _) | (with_reducible refine below_then ?_ ?_ (by with_reducible assumption)) | (with_reducible exact Nat.le_refl _) | go_size | (simp only [*]; done)))⟩
      · skip
        rcases h3 : (c == 0) with _ | _
        · skip
          have e : itemOk ⟨3, a, b, c, p, f⟩ = false := by simp [itemOk, h1, h2, h3]
          rw [e]; clear e
          go_enter Try.func74, Try.ntmps74
          go_wp2_with (go_at_call 44; refine (inRange_any _ _ _ _).mono ?_; rintro e w' ⟨rfl, rfl⟩)
          go_returns
          exact ⟨rfl, by (repeat' (first | (with_reducible exact Below.refl _ _) | (with_reducible assumption) | (with_reducible refine Below.alloc ?_ ?_ _) | (with_reducible refine Below.drew ?_) | (with_reducible refine below_drewN ?_ _) | (with_reducible refine Below.setCell ?_ ?_ _) | (with_reducible refine below_then ?_ ?_ (by with_reducible assumption)) | (with_reducible exact Nat.le_refl _) | go_size | (simp only [*]; done)))⟩
        · skip
          rcases h4 : inR p (-1000) 1000 with _ | _
          · skip
            have e : itemOk ⟨3, a, b, c, p, f⟩ = false := by simp [itemOk, h1, h2, h3, h4]
            rw [e]; clear e
            go_enter Try.func74, Try.ntmps74
            go_wp2_with (go_at_call 44; refine (inRange_any _ _ _ _).mono ?_; rintro e w' ⟨rfl, rfl⟩)
            go_returns
            exact ⟨rfl, by (repeat' (first | (with_reducible exact Below.refl _ _) | (with_reducible assumption) | (with_reducible refine Below.alloc ?_ ?_ _) | (with_reducible refine Below.drew ?_) | (with_reducible refine below_drewN ?_ _) | (with_reducible refine Below.setCell ?_ ?_ _) | (with_reducible refine below_then ?_ ?_ (by with_reducible assumption)) | (with_reducible exact Nat.le_refl _) | go_size | (simp only [*]; done)))⟩
          · skip
            have e : itemOk ⟨3, a, b, c, p, f⟩ = true := by simp [itemOk, h1, h2, h3, h4]
            rw [e]; clear e
            go_enter Try.func74, Try.ntmps74
            go_wp2_with (go_at_call 44; refine (inRange_any _ _ _ _).mono ?_; rintro e w' ⟨rfl, rfl⟩)
            go_returns
            exact ⟨rfl, by (repeat' (first | (with_reducible exact Below.refl _ _) | (with_reducible assumption) | (with_reducible refine Below.alloc ?_ ?_ _) | (with_reducible refine Below.drew ?_) | (with_reducible refine below_drewN ?_ _) | (with_reducible refine Below.setCell ?_ ?_ _) | (with_reducible refine below_then ?_ ?_ (by with_reducible assumption)) | (with_reducible exact Nat.le_refl _) | go_size | (simp only [*]; done)))⟩
  have e1 : (k == 1) = false := by simp [k1]
  have e2 : (k == 2) = false := by simp [k2]
  have e3 : (k == 3) = false := by simp [k3]
  have e : itemOk ⟨k, a, b, c, p, f⟩ = false := by simp [itemOk, k1, k2, k3]
  rw [e]; clear e
  go_enter Try.func74, Try.ntmps74
  go_wp2_with (go_at_call 44; refine (inRange_any _ _ _ _).mono ?_; rintro e w' ⟨rfl, rfl⟩)
  go_returns
  exact ⟨rfl, by (repeat' (first | (with_reducible exact Below.refl _ _) | (with_reducible assumption) | (with_reducible refine Below.alloc ?_ ?_ _) | (with_reducible refine Below.drew ?_) | (with_reducible refine below_drewN ?_ _) | (with_reducible refine Below.setCell ?_ ?_ _) | (with_reducible refine below_then ?_ ?_ (by with_reducible assumption)) | (with_reducible exact Nat.le_refl _) | go_size | (simp only [*]; done)))⟩

end Go.Proofs.Ytkmipgekmbngcaa
/- Items of a paragraph, of the program: breaks and valid items are what the plain functions say. Conditions: the slice reads as the list. -/
namespace Go.Proofs.Ytkmipgekmbngcaa
open Go.RowKit

theorem isForced_i (k a b c p : Int) (f : Bool) (w : World) :
    Calls Try.prog 72 #[.agg #[.int .i64 k, .int .i64 a, .int .i64 b, .int .i64 c, .int .i64 p, .bool f]] w fun e w' => e = .returned (.bool (forced ⟨k, a, b, c, p, f⟩)) ∧ Below w.heap.size w w' := by
  rcases h1 : (k == 3) with _ | _
  · have e : forced ⟨k, a, b, c, p, f⟩ = false := by simp only [forced, h1, Bool.false_and]
    rw [e]; clear e
    go_enter Try.func72, Try.ntmps72
    go_wp2
    go_returns
    exact ⟨rfl, by (repeat' (first | (with_reducible exact Below.refl _ _) | (with_reducible assumption) | (with_reducible refine Below.alloc ?_ ?_ _) | (with_reducible refine Below.drew ?_) | (with_reducible refine below_drewN ?_ _) | (with_reducible refine Below.setCell ?_ ?_ _) | (with_reducible refine below_then ?_ ?_ (by with_reducible assumption)) | (with_reducible exact Nat.le_refl _) | go_size | (simp only [*]; done)))⟩
  · rcases h2 : (p == -1000) with _ | _
    · have e : forced ⟨k, a, b, c, p, f⟩ = false := by simp only [forced, h1, h2, Bool.and_false]
      rw [e]; clear e
      go_enter Try.func72, Try.ntmps72
      go_wp2
      go_returns
      exact ⟨rfl, by (repeat' (first | (with_reducible exact Below.refl _ _) | (with_reducible assumption) | (with_reducible refine Below.alloc ?_ ?_ _) | (with_reducible refine Below.drew ?_) | (with_reducible refine below_drewN ?_ _) | (with_reducible refine Below.setCell ?_ ?_ _) | (with_reducible refine below_then ?_ ?_ (by with_reducible assumption)) | (with_reducible exact Nat.le_refl _) | go_size | (simp only [*]; done)))⟩
    · have e : forced ⟨k, a, b, c, p, f⟩ = true := by simp only [forced, h1, h2, Bool.and_true]
      rw [e]; clear e
      go_enter Try.func72, Try.ntmps72
      go_wp2
      go_returns
      exact ⟨rfl, by (repeat' (first | (with_reducible exact Below.refl _ _) | (with_reducible assumption) | (with_reducible refine Below.alloc ?_ ?_ _) | (with_reducible refine Below.drew ?_) | (with_reducible refine below_drewN ?_ _) | (with_reducible refine Below.setCell ?_ ?_ _) | (with_reducible refine below_then ?_ ?_ (by with_reducible assumption)) | (with_reducible exact Nat.le_refl _) | go_size | (simp only [*]; done)))⟩
theorem brk_zero {l : List It} {x : It} (hx : l.getD 0 default = x) : brk l 0 = ((x.k == 3) && decide (x.pen < 1000)) := by
  unfold brk kd
  rw [hx]
  by_cases h : x.k = 3
  · simp [h]
  · simp [h]
theorem brk_succ {l : List It} {j : Nat} {x y : It} (hx : l.getD (j + 1) default = x) (hy : l.getD j default = y) : brk l (j + 1) = if x.k = 3 then decide (x.pen < 1000) else (x.k == 2) && (y.k == 1) := by
  unfold brk kd
  rw [hx, Nat.add_sub_cancel, hy]
  by_cases h : x.k = 3
  · simp [h]
  · simp [h]
set_option maxHeartbeats 1000000 in
theorem isBreak_i (A : Option Addr) (n cap k : Nat) (xs : List It) (w : World) (hn : xs.length = n) (hk : k < n) (hm : n ≤ 60) (hr : Row w w.heap.size 6 A n (itc xs)) :
    Calls Try.prog 75 #[.slice A n cap, .int .i64 (k : Int)] w fun e w' => e = .returned (.bool (brk xs k)) ∧ Below w.heap.size w w' := by
  obtain ⟨b, off, rfl, hb, hc⟩ := hr (by omega)
  have c0 := hc k 0 hk (by omega)
  have c4 := hc k 4 hk (by omega)
  obtain ⟨x, hx⟩ : ∃ x, xs.getD k default = x := ⟨_, rfl⟩
  simp only [itc, itv, hx, Nat.add_zero] at c0 c4
  have Hx := Lib.hid hx
  have hin : inR (k : Int) 0 ((n : Int) - 1) = true := inR_iff.2 ⟨by omega, by omega⟩
  have HI := Lib.hid hin
  have hlt : (k : Int) < (n : Int) := by omega
  clear hx hin hn
  cases k with
  | zero =>
    have E := brk_zero Hx.out
    simp only [Nat.zero_mul, Nat.add_zero] at c0 c4
    show Calls _ _ #[.slice (some ⟨b, off, none⟩) n cap, .int .i64 0] w _
    rcases h1 : (x.k == 3) with _ | _
    · rw [h1] at E
      have HE := Lib.hid E
      clear E hc
      go_enter Try.func75, Try.ntmps75
      go_wp2_with fail
      ((with_reducible refine (within_any _ _ _ _).mono ?_); rintro e w' ⟨rfl, rfl⟩)
      rw [show inR 0 0 ((n : Int) - 1) = true from HI.out]
      rcases h2 : (x.k == 2) with _ | _
      · go_wp2_with fail
        go_ret
        exact ⟨ret_bool (by simp [HE.out]), Below.refl _ _⟩
      · go_wp2_with fail
        go_ret
        exact ⟨ret_bool (by simp [HE.out]), Below.refl _ _⟩
    · rw [h1] at E
      have HE := Lib.hid E
      clear E hc
      go_enter Try.func75, Try.ntmps75
      go_wp2_with fail
      ((with_reducible refine (within_any _ _ _ _).mono ?_); rintro e w' ⟨rfl, rfl⟩)
      rw [show inR 0 0 ((n : Int) - 1) = true from HI.out]
      by_cases h2 : x.pen < 1000
      · go_wp2_with fail
        go_ret
        exact ⟨ret_bool (by simp [HE.out, h2]), Below.refl _ _⟩
      · go_wp2_with fail
        go_ret
        exact ⟨ret_bool (by simp [HE.out]), Below.refl _ _⟩
  | succ j =>
    have d0 := hc j 0 (by omega) (by omega)
    obtain ⟨y, hy⟩ : ∃ y, xs.getD j default = y := ⟨_, rfl⟩
    simp only [itc, itv, hy, Nat.add_zero] at d0
    have E := brk_succ Hx.out hy
    have hj1 : inR ((j : Int) + 1) 0 ((n : Int) - 1) = true := inR_iff.2 ⟨by omega, by omega⟩
    have HJ := Lib.hid hj1
    clear hj1
    rw [show ((j + 1 : Nat) : Int) = (j : Int) + 1 by omega] at hlt ⊢
    clear hy hc
    by_cases h1 : x.k = 3
    · rw [if_pos h1] at E
      have HE := Lib.hid E
      have h1' : (x.k == 3) = true := by simp [h1]
      clear E h1
      go_enter Try.func75, Try.ntmps75
      go_wp2_with fail
      ((with_reducible refine (within_any _ _ _ _).mono ?_); rintro e w' ⟨rfl, rfl⟩)
      rw [HJ.out]
      by_cases h2 : x.pen < 1000
      · go_wp2_with fail
        go_ret
        exact ⟨ret_bool (by simp [HE.out, h2]), Below.refl _ _⟩
      · go_wp2_with fail
        go_ret
        exact ⟨ret_bool (by simp [HE.out]), Below.refl _ _⟩
    · rw [if_neg h1] at E
      have HE := Lib.hid E
      have h1' : (x.k == 3) = false := by simp [h1]
      clear E h1
      go_enter Try.func75, Try.ntmps75
      go_wp2_with fail
      ((with_reducible refine (within_any _ _ _ _).mono ?_); rintro e w' ⟨rfl, rfl⟩)
      rw [HJ.out]
      rcases h2 : (x.k == 2) with _ | _
      · go_wp2_with fail
        go_ret
        exact ⟨ret_bool (by simp [HE.out, h2]), Below.refl _ _⟩
      · go_wp2_with fail
        go_ret
        exact ⟨ret_bool (by simp [HE.out, h2]), Below.refl _ _⟩
theorem isBreak_out (A : Option Addr) (n cap : Nat) (i : Int) (w : World) (hi : i < 0 ∨ (n : Int) ≤ i) (hm : n ≤ 60) :
    Calls Try.prog 75 #[.slice A n cap, .int .i64 i] w fun e w' => e = .returned (.bool false) ∧ Below w.heap.size w w' := by
  have hin : inR i 0 ((n : Int) - 1) = false := inR_no.2 (by omega)
  have HI := Lib.hid hin
  clear hin hi
  go_enter Try.func75, Try.ntmps75
  go_wp2_with fail
  ((with_reducible refine (within_any _ _ _ _).mono ?_); rintro e w' ⟨rfl, rfl⟩)
  rw [HI.out]
  go_wp2_with fail
  go_ret
  exact ⟨rfl, Below.refl _ _⟩

set_option maxHeartbeats 1000000 in
theorem validItems_i (A : Option Addr) (n cap : Nat) (xs : List It) (w : World) (hn : xs.length = n) (hm : n ≤ maxLen) (hr : Row w w.heap.size 6 A n (itc xs)) :
    Calls Try.prog 38 #[.slice A n cap] w fun e w' => e = .returned (.bool (itemsOk xs)) ∧ Below w.heap.size w w' := by
  unfold maxLen at hm
  rcases hl : inR n 1 60 with _ | _
  · rw [items_len hn hl]
    have HL := Lib.hid hl
    clear hl hn
    go_enter Try.func38, Try.ntmps38
    go_wp2_with fail
    ((with_reducible refine (within_any _ _ _ _).mono ?_); rintro e w' ⟨rfl, rfl⟩)
    rw [HL.out]
    go_wp2_with fail
    go_ret
    exact ⟨rfl, Below.refl _ _⟩
  have h60 := inR_iff.1 hl
  have HL := Lib.hid hl; clear hl
  have HN := Lib.hid hn; clear hn
  have hr0 := Lib.hid hr
  go_enter Try.func38, Try.ntmps38
  go_wp2_with fail
  ((with_reducible refine (within_any _ _ _ _).mono ?_); rintro e w' ⟨rfl, rfl⟩)
  rw [HL.out]
  go_wp2_with fail
  go_loopg [11] n (fun k i wr => ∃ j : Nat, j ≤ n ∧ k = n - j ∧ i = .int .i64 j ∧ Hid ((xs.take j).all itemOk = true) ∧ Below w.heap.size w wr)
  case atStart => exact ⟨0, Nat.zero_le _, rfl, rfl, by simp [Hid], Below.refl _ _⟩
  case round =>
    obtain ⟨j, hj, hk, rfl, hall, hbel⟩ := hrel
    have HK := Lib.hid hk; clear hk
    have hsz := hbel.size
    by_cases hlt : j < n
    · obtain ⟨b, off, rfl, hb, hc⟩ := hr (by omega)
      have c0 : wr.cell? ⟨b, off + j * 6, none⟩ = _ := (hbel.cell (p := ⟨b, off + j * 6, none⟩) hb).trans (hc j 0 hlt (by omega))
      have c1 : wr.cell? ⟨b, off + j * 6 + 1, none⟩ = _ := (hbel.cell (p := ⟨b, off + j * 6 + 1, none⟩) hb).trans (hc j 1 hlt (by omega))
      have c2 : wr.cell? ⟨b, off + j * 6 + 2, none⟩ = _ := (hbel.cell (p := ⟨b, off + j * 6 + 2, none⟩) hb).trans (hc j 2 hlt (by omega))
      have c3 : wr.cell? ⟨b, off + j * 6 + 3, none⟩ = _ := (hbel.cell (p := ⟨b, off + j * 6 + 3, none⟩) hb).trans (hc j 3 hlt (by omega))
      have c4 : wr.cell? ⟨b, off + j * 6 + 4, none⟩ = _ := (hbel.cell (p := ⟨b, off + j * 6 + 4, none⟩) hb).trans (hc j 4 hlt (by omega))
      have c5 : wr.cell? ⟨b, off + j * 6 + 5, none⟩ = _ := (hbel.cell (p := ⟨b, off + j * 6 + 5, none⟩) hb).trans (hc j 5 hlt (by omega))
      obtain ⟨x, hx⟩ : ∃ x, xs.getD j default = x := ⟨_, rfl⟩
      simp only [itc, hx] at c0 c1 c2 c3 c4 c5
      have Hx := Lib.hid hx; clear hx hc
      obtain ⟨xk, xw, xst, xsh, xp, xf⟩ := x
      simp only [itv] at c0 c1 c2 c3 c4 c5
      obtain ⟨V, hV⟩ : ∃ V, itemOk ⟨xk, xw, xst, xsh, xp, xf⟩ = V := ⟨_, rfl⟩
      have HV := Lib.hid hV; clear hV
      go_wp2_with fail
      ((with_reducible refine (validItem_i _ _ _ _ _ _ _).mono ?_); rintro e w1 ⟨rfl, hb1⟩)
      have hB : Below w.heap.size w w1 := below_then (Nat.le_refl _) (by (repeat' (first | (with_reducible exact Below.refl _ _) | (with_reducible assumption) | (with_reducible refine Below.alloc ?_ ?_ _) | (with_reducible refine Below.drew ?_) | (with_reducible refine below_drewN ?_ _) | (with_reducible refine Below.setCell ?_ ?_ _) | (with_reducible refine below_then ?_ ?_ (by with_reducible assumption)) | (with_reducible exact Nat.le_refl _) | go_size | (simp only [*]; done)))) hb1
      rw [HV.out]
      rcases V with _ | _
      · go_wp2_with fail
        go_ret
        exact ⟨ret_bool (items_bad HN.out hlt Hx.out HV.out).symm, hB⟩
      · go_wp2_with fail
        go_roundg (n - (j + 1))
        case measure => have := HK.out; omega
        case rel => exact ⟨j + 1, by omega, rfl, by go_num, all_more HN.out hlt Hx.out hall.out HV.out, hB⟩
    · obtain ⟨m, rfl⟩ : ∃ m, n = m + 1 := ⟨n - 1, by omega⟩
      obtain ⟨b, off, rfl, hb, hc⟩ := hr0.out (by omega)
      have c0 : wr.cell? ⟨b, off + m * 6, none⟩ = _ := (hbel.cell (p := ⟨b, off + m * 6, none⟩) hb).trans (hc m 0 (by omega) (by omega))
      have c1 : wr.cell? ⟨b, off + m * 6 + 1, none⟩ = _ := (hbel.cell (p := ⟨b, off + m * 6 + 1, none⟩) hb).trans (hc m 1 (by omega) (by omega))
      have c2 : wr.cell? ⟨b, off + m * 6 + 2, none⟩ = _ := (hbel.cell (p := ⟨b, off + m * 6 + 2, none⟩) hb).trans (hc m 2 (by omega) (by omega))
      have c3 : wr.cell? ⟨b, off + m * 6 + 3, none⟩ = _ := (hbel.cell (p := ⟨b, off + m * 6 + 3, none⟩) hb).trans (hc m 3 (by omega) (by omega))
      have c4 : wr.cell? ⟨b, off + m * 6 + 4, none⟩ = _ := (hbel.cell (p := ⟨b, off + m * 6 + 4, none⟩) hb).trans (hc m 4 (by omega) (by omega))
      have c5 : wr.cell? ⟨b, off + m * 6 + 5, none⟩ = _ := (hbel.cell (p := ⟨b, off + m * 6 + 5, none⟩) hb).trans (hc m 5 (by omega) (by omega))
      obtain ⟨x, hx⟩ : ∃ x, xs.getD m default = x := ⟨_, rfl⟩
      simp only [itc, hx] at c0 c1 c2 c3 c4 c5
      obtain ⟨xk, xw, xst, xsh, xp, xf⟩ := x
      simp only [itv] at c0 c1 c2 c3 c4 c5
      have E : itemsOk xs = forced ⟨xk, xw, xst, xsh, xp, xf⟩ := items_end HN.out (by omega) hall.out HL.out hx
      have HE := Lib.hid E
      clear E hx hc
      go_wp2_with fail
      ((with_reducible refine (isForced_i _ _ _ _ _ _ _).mono ?_); rintro e w1 ⟨rfl, hb1⟩)
      rw [← HE.out]
      go_wp2_with fail
      go_ret
      exact ⟨rfl, below_then (Nat.le_refl _) hbel hb1⟩
end Go.Proofs.Ytkmipgekmbngcaa
/- Lines of a paragraph, of the program: lines and their glue are what the plain functions say. Conditions: the slice reads as the list; at most 60 items. -/
namespace Go.Proofs.Ytkmipgekmbngcaa
open Go.RowKit

theorem Row.sgI {w : World} {B b off n : Nat} {xs : List It} (hn : xs.length = n) (h : Row w B 6 (some ⟨b, off, none⟩) n (itc xs)) (f t : Nat) (ht : t ≤ n) : Row w B 6 (some ⟨b, off + f * 6, none⟩) (t - f) (itc (sg xs f t)) := fun h0 => by
  obtain ⟨b', off', e, hb, hc⟩ := h (by omega)
  injection e with e
  injection e with e1 e2
  subst e1 e2
  refine ⟨b, off + f * 6, rfl, hb, fun i j hi hj => ?_⟩
  have := hc (f + i) j (by omega) hj
  rw [show off + f * 6 + i * 6 + j = off + (f + i) * 6 + j by omega, this]
  simp only [itc, sg_at hn ht hi]

set_option maxHeartbeats 1000000 in
theorem indexF_i (A : Option Addr) (n cap : Nat) (xs : List It) (w : World) (hn : xs.length = n) (hm : n ≤ 60) (hr : Row w w.heap.size 6 A n (itc xs)) :
    Calls Try.prog 89 #[.slice A n cap, .func (.func 72) #[] #[]] w fun e w' => (∃ i : Int, e = .returned (.int .i64 i) ∧ (0 ≤ i ↔ ¬ xs.all (fun x => !forced x) = true)) ∧ Below w.heap.size w w' := by
  have HN := Lib.hid hn; clear hn
  go_enter Try.func89, Try.ntmps89
  go_wp2_with fail
  go_loopg [8] n (fun k i wr => ∃ j : Nat, j ≤ n ∧ k = n - j ∧ i = .int .i64 j ∧ Hid ((xs.take j).all (fun x => !forced x) = true) ∧ Below w.heap.size w wr)
  case atStart => exact ⟨0, Nat.zero_le _, rfl, rfl, by simp [Hid], Below.refl _ _⟩
  case round =>
    obtain ⟨j, hj, hk, rfl, hall, hbel⟩ := hrel
    have HK := Lib.hid hk; clear hk
    have hsz := hbel.size
    by_cases hlt : j < n
    · obtain ⟨b, off, rfl, hb, hc⟩ := hr (by omega)
      have c0 : wr.cell? ⟨b, off + j * 6, none⟩ = _ := (hbel.cell (p := ⟨b, off + j * 6, none⟩) hb).trans (hc j 0 hlt (by omega))
      have c1 : wr.cell? ⟨b, off + j * 6 + 1, none⟩ = _ := (hbel.cell (p := ⟨b, off + j * 6 + 1, none⟩) hb).trans (hc j 1 hlt (by omega))
      have c2 : wr.cell? ⟨b, off + j * 6 + 2, none⟩ = _ := (hbel.cell (p := ⟨b, off + j * 6 + 2, none⟩) hb).trans (hc j 2 hlt (by omega))
      have c3 : wr.cell? ⟨b, off + j * 6 + 3, none⟩ = _ := (hbel.cell (p := ⟨b, off + j * 6 + 3, none⟩) hb).trans (hc j 3 hlt (by omega))
      have c4 : wr.cell? ⟨b, off + j * 6 + 4, none⟩ = _ := (hbel.cell (p := ⟨b, off + j * 6 + 4, none⟩) hb).trans (hc j 4 hlt (by omega))
      have c5 : wr.cell? ⟨b, off + j * 6 + 5, none⟩ = _ := (hbel.cell (p := ⟨b, off + j * 6 + 5, none⟩) hb).trans (hc j 5 hlt (by omega))
      obtain ⟨x, hx⟩ : ∃ x, xs.getD j default = x := ⟨_, rfl⟩
      simp only [itc, hx] at c0 c1 c2 c3 c4 c5
      have Hx := Lib.hid hx; clear hx hc
      obtain ⟨xk, xw, xst, xsh, xp, xf⟩ := x
      simp only [itv] at c0 c1 c2 c3 c4 c5
      obtain ⟨V, hV⟩ : ∃ V, forced ⟨xk, xw, xst, xsh, xp, xf⟩ = V := ⟨_, rfl⟩
      have HV := Lib.hid hV; clear hV
      go_wp2_with fail
      ((with_reducible refine (isForced_i _ _ _ _ _ _ _).mono ?_); rintro e w1 ⟨rfl, hb1⟩)
      have hB : Below w.heap.size w w1 := below_then (Nat.le_refl _) (by (repeat' (first | (with_reducible exact Below.refl _ _) | (with_reducible assumption) | (with_reducible refine Below.alloc ?_ ?_ _) | (with_reducible refine Below.drew ?_) | (with_reducible refine below_drewN ?_ _) | (with_reducible refine Below.setCell ?_ ?_ _) | (with_reducible refine below_then ?_ ?_ (by with_reducible assumption)) | (with_reducible exact Nat.le_refl _) | go_size | (simp only [*]; done)))) hb1
      rw [HV.out]
      rcases V with _ | _
      · go_wp2_with fail
        go_roundg (n - (j + 1))
        case measure => have := HK.out; omega
        case rel => exact ⟨j + 1, by omega, rfl, by go_num, all_more HN.out hlt Hx.out hall.out (by simp [HV.out]), hB⟩
      · go_wp2_with fail
        go_ret
        refine ⟨⟨_, rfl, ?_⟩, hB⟩
        have h := all_bad (p := fun x => !forced x) HN.out hlt Hx.out (by simp [HV.out])
        rw [h]
        simp
    · go_wp2_with fail
      go_ret
      refine ⟨⟨_, rfl, ?_⟩, hbel⟩
      rw [all_end HN.out (by omega) hall.out]
      simp
theorem contains_i (A : Option Addr) (n cap : Nat) (xs : List It) (w : World) (hn : xs.length = n) (hm : n ≤ 60) (hr : Row w w.heap.size 6 A n (itc xs)) :
    Calls Try.prog 76 #[.slice A n cap, .func (.func 72) #[] #[]] w fun e w' => e = .returned (.bool (!xs.all (fun x => !forced x))) ∧ Below w.heap.size w w' := by
  go_enter Try.func76, Try.ntmps76
  go_wp2_with fail
  ((with_reducible refine (indexF_i _ _ _ xs _ hn hm ?_).mono ?_); (exact hr); rintro e w1 ⟨⟨i, rfl, hi⟩, hb⟩)
  obtain ⟨V, hV⟩ : ∃ V, xs.all (fun x => !forced x) = V := ⟨_, rfl⟩
  rw [hV] at hi
  have HV := Lib.hid hV; clear hV
  cases V with
  | true =>
    have hi' : i < 0 := by simp at hi; omega
    clear hi
    go_wp2
    go_ret
    exact ⟨ret_bool (by simp [HV.out, hi']), hb⟩
  | false =>
    have hi' : 0 ≤ i := by simp at hi; omega
    clear hi
    go_wp2
    go_ret
    exact ⟨ret_bool (by simp [HV.out]), hb⟩
theorem ln_le {l : List It} {f t : Int} (h : t ≤ f) : lnOk l f t = false := by
  have : decide (f < t) = false := by first | (simp; done) | (simp; omega)
  simp [lnOk, this]
theorem ln_low {l : List It} {f t : Int} (h : f < -1) : lnOk l f t = false := by
  have : decide (-1 ≤ f) = false := by first | (simp; done) | (simp; omega)
  simp [lnOk, this]
theorem ln_high {l : List It} {n : Nat} {f t : Int} (hn : l.length = n) (h : (n : Int) ≤ t) : lnOk l f t = false := by
  have : decide (t < (l.length : Int)) = false := by rw [hn]; first | (simp; done) | (simp; omega)
  simp [lnOk, this]
theorem ln_t {l : List It} {f : Int} {t : Nat} (h : brk l t = false) : lnOk l f t = false := by
  simp [lnOk, h]
theorem ln_f {l : List It} {f : Nat} {t : Int} (h : brk l f = false) : lnOk l f t = false := by
  have : decide ((f : Int) < 0) = false := by first | (simp; done) | (simp; omega)
  simp [lnOk, h, this]
theorem ln_first {l : List It} {n t : Nat} (hn : l.length = n) (ht : t < n) (h : brk l t = true) : lnOk l (-1) t = noF l 0 t := by
  have h1 : decide ((t : Int) < (l.length : Int)) = true := by rw [hn]; first | (simp; done) | (simp; omega)
  have h2 : decide ((-1 : Int) < (t : Int)) = true := by first | (simp; done) | (simp; omega)
  simp [lnOk, h, h2]
  intros; omega
theorem ln_mid {l : List It} {n f t : Nat} (hn : l.length = n) (ht : t < n) (hft : f < t) (h : brk l t = true) (hf : brk l f = true) : lnOk l f t = noF l (f + 1) t := by
  have h1 : decide ((t : Int) < (l.length : Int)) = true := by rw [hn]; first | (simp; done) | (simp; omega)
  have h2 : decide ((f : Int) < (t : Int)) = true := by first | (simp; done) | (simp; omega)
  have h3 : decide ((-1 : Int) ≤ (f : Int)) = true := by first | (simp; done) | (simp; omega)
  have h4 : ((f : Int) + 1).toNat = f + 1 := by omega
  simp [lnOk, h, hf, h4]
  intros; omega
/-- What a line is. -/
theorem ln_iff {l : List It} {n : Nat} {f t : Int} (hn : l.length = n) (h : lnOk l f t = true) : ∃ a u : Nat, f = (a : Int) - 1 ∧ t = (u : Int) ∧ a ≤ u ∧ u < n ∧ brk l u = true ∧ noF l a u = true ∧ (0 < a → brk l (a - 1) = true) := by
  simp only [lnOk, Bool.and_eq_true, decide_eq_true_eq, Bool.or_eq_true, hn] at h
  obtain ⟨⟨⟨⟨⟨h1, h2⟩, h3⟩, h4⟩, h5⟩, h6⟩ := h
  refine ⟨(f + 1).toNat, t.toNat, by omega, by omega, by omega, by omega, h4, h6, fun h0 => ?_⟩
  rcases h5 with h5 | h5
  · omega
  · rwa [show (f + 1).toNat - 1 = f.toNat by omega]

set_option maxHeartbeats 1000000 in
theorem isLine_i (A : Option Addr) (n cap : Nat) (f t : Int) (xs : List It) (w : World) (hn : xs.length = n) (hm : n ≤ 60) (hc : n ≤ cap ∧ cap ≤ maxLen) (hr : Row w w.heap.size 6 A n (itc xs)) :
    Calls Try.prog 49 #[.slice A n cap, .int .i64 f, .int .i64 t] w fun e w' => e = .returned (.bool (lnOk xs f t)) ∧ Below w.heap.size w w' := by
  obtain ⟨hc1, hc2⟩ := hc
  unfold maxLen at hc2
  by_cases h1 : t ≤ f
  · rw [ln_le h1]
    go_enter Try.func49, Try.ntmps49
    go_wp2_with fail
    go_ret
    exact ⟨rfl, Below.refl _ _⟩
  by_cases h2 : f < -1
  · rw [ln_low h2]
    have hf1 : (f == -1) = false := by first | (simp; done) | (simp; omega)
    go_enter Try.func49, Try.ntmps49
    go_wp2_with fail
    ((with_reducible refine (isBreak_out _ _ _ _ _ (by omega) hm).mono ?_); rintro e w1 ⟨rfl, hb1⟩)
    go_wp2_with fail
    go_ret
    exact ⟨rfl, hb1⟩
  by_cases h3 : f = -1
  · subst h3
    by_cases h4 : (n : Int) ≤ t
    · rw [ln_high hn h4]
      go_enter Try.func49, Try.ntmps49
      go_wp2_with fail
      ((with_reducible refine (isBreak_out _ _ _ _ _ (by omega) hm).mono ?_); rintro e w1 ⟨rfl, hb1⟩)
      go_wp2_with fail
      go_ret
      exact ⟨rfl, hb1⟩
    obtain ⟨u, rfl⟩ := Int.eq_ofNat_of_zero_le (show 0 ≤ t by omega)
    have hu : u < n := by omega
    have h1' : (-1 : Int) < (u : Int) := by omega
    rcases hB : brk xs u with _ | _
    · rw [ln_t hB]
      have HB := Lib.hid hB
      clear hB h1 h2 h4
      go_enter Try.func49, Try.ntmps49
      go_wp2_with fail
      ((with_reducible refine (isBreak_i _ _ _ _ xs _ hn hu hm ?_).mono ?_); (exact hr); rintro e w1 ⟨rfl, hb1⟩)
      rw [HB.out]
      go_wp2_with fail
      go_ret
      exact ⟨rfl, hb1⟩
    rw [ln_first hn hu hB]
    have HB := Lib.hid hB
    have HR := Lib.hid hr
    have hsl : Hid ((sg xs 0 u).length = u - 0) := sg_len hn (by omega)
    obtain ⟨b, off, rfl, _, _⟩ := hr (by omega)
    have h5 : (u : Int) ≤ (cap : Int) := by omega
    clear hB h1 h2 h4
    go_enter Try.func49, Try.ntmps49
    go_wp2_with fail
    ((with_reducible refine (isBreak_i _ _ _ _ xs _ hn hu hm ?_).mono ?_); (exact HR.out); rintro e w1 ⟨rfl, hb1⟩)
    rw [HB.out]
    go_wp2_with fail
    ((with_reducible refine (contains_i _ _ _ (sg xs 0 u) _ (by simpa using hsl.out) (by omega) ?_).mono ?_); (exact (by simpa using (HR.out.then_ hb1).sgI hn 0 u (by omega))); rintro e w2 ⟨rfl, hb2⟩)
    go_wp2_with fail
    go_ret
    exact ⟨ret_bool (by simp [noF]), below_then (Nat.le_refl _) hb1 hb2⟩
  · obtain ⟨v, rfl⟩ := Int.eq_ofNat_of_zero_le (show 0 ≤ f by omega)
    by_cases h4 : (n : Int) ≤ (v : Int)
    · rw [ln_high hn (by omega)]
      have hf1 : ((v : Int) == -1) = false := by first | (simp; done) | (simp; omega)
      go_enter Try.func49, Try.ntmps49
      go_wp2_with fail
      ((with_reducible refine (isBreak_out _ _ _ _ _ (by omega) hm).mono ?_); rintro e w1 ⟨rfl, hb1⟩)
      go_wp2_with fail
      go_ret
      exact ⟨rfl, hb1⟩
    have hv : v < n := by omega
    have hf1 : ((v : Int) == -1) = false := by first | (simp; done) | (simp; omega)
    rcases hV : brk xs v with _ | _
    · rw [ln_f hV]
      have HV := Lib.hid hV
      clear hV h2 h3 h4
      go_enter Try.func49, Try.ntmps49
      go_wp2_with fail
      ((with_reducible refine (isBreak_i _ _ _ _ xs _ hn hv hm ?_).mono ?_); (exact hr); rintro e w1 ⟨rfl, hb1⟩)
      rw [HV.out]
      go_wp2_with fail
      go_ret
      exact ⟨rfl, hb1⟩
    by_cases h5 : (n : Int) ≤ t
    · rw [ln_high hn h5]
      have HV := Lib.hid hV
      clear hV h2 h3 h4
      go_enter Try.func49, Try.ntmps49
      go_wp2_with fail
      ((with_reducible refine (isBreak_i _ _ _ _ xs _ hn hv hm ?_).mono ?_); (exact hr); rintro e w1 ⟨rfl, hb1⟩)
      rw [HV.out]
      go_wp2_with fail
      ((with_reducible refine (isBreak_out _ _ _ _ _ (by omega) hm).mono ?_); rintro e w2 ⟨rfl, hb2⟩)
      go_wp2_with fail
      go_ret
      exact ⟨rfl, below_then (Nat.le_refl _) hb1 hb2⟩
    obtain ⟨u, rfl⟩ := Int.eq_ofNat_of_zero_le (show 0 ≤ t by omega)
    have hu : u < n := by omega
    have hvu : v < u := by omega
    rcases hB : brk xs u with _ | _
    · rw [ln_t hB]
      have HB := Lib.hid hB
      have HV := Lib.hid hV
      clear hB hV h2 h3 h4 h5
      go_enter Try.func49, Try.ntmps49
      go_wp2_with fail
      ((with_reducible refine (isBreak_i _ _ _ _ xs _ hn hv hm ?_).mono ?_); (exact hr); rintro e w1 ⟨rfl, hb1⟩)
      rw [HV.out]
      go_wp2_with fail
      ((with_reducible refine (isBreak_i _ _ _ _ xs _ hn hu hm ?_).mono ?_); (exact hr.then_ hb1); rintro e w2 ⟨rfl, hb2⟩)
      rw [HB.out]
      go_wp2_with fail
      go_ret
      exact ⟨rfl, below_then (Nat.le_refl _) hb1 hb2⟩
    rw [ln_mid hn hu hvu hB hV]
    have HB := Lib.hid hB
    have HV := Lib.hid hV
    have HR := Lib.hid hr
    have hsl : Hid ((sg xs (v + 1) u).length = u - (v + 1)) := sg_len hn (by omega)
    obtain ⟨b, off, rfl, _, _⟩ := hr (by omega)
    have h6 : (u : Int) ≤ (cap : Int) := by omega
    have h7 : (v : Int) + 1 ≤ (u : Int) := by omega
    clear hB hV h2 h3 h4 h5
    go_enter Try.func49, Try.ntmps49
    go_wp2_with fail
    ((with_reducible refine (isBreak_i _ _ _ _ xs _ hn hv hm ?_).mono ?_); (exact HR.out); rintro e w1 ⟨rfl, hb1⟩)
    rw [HV.out]
    go_wp2_with fail
    ((with_reducible refine (isBreak_i _ _ _ _ xs _ hn hu hm ?_).mono ?_); (exact HR.out.then_ hb1); rintro e w2 ⟨rfl, hb2⟩)
    rw [HB.out]
    go_wp2_with fail
    ((with_reducible refine (contains_i _ _ _ (sg xs (v + 1) u) _ hsl.out (by omega) ?_).mono ?_); (exact ((HR.out.then_ hb1).then_ hb2).sgI hn (v + 1) u (by omega)); rintro e w3 ⟨rfl, hb3⟩)
    go_wp2_with fail
    go_ret
    exact ⟨ret_bool (by simp [noF]), below_then (Nat.le_refl _) (below_then (Nat.le_refl _) hb1 hb2) hb3⟩
end Go.Proofs.Ytkmipgekmbngcaa
/- The sum of the costs of the lines that end at given breaks, in plain terms. No program. No condition. -/
namespace Go.Proofs.Ytkmipgekmbngcaa

/-- What the line between the breaks f and t costs, if it is one and may be set. -/
def lc (xs : List It) (d tol f t : Int) : Option Int := if lnOk xs f t && costOk xs (f + 1).toNat t.toNat d tol then some (costV xs (f + 1).toNat t.toNat d tol) else none
def frm (bs : List Int) (j : Nat) : Int := if j = 0 then -1 else bs.getD (j - 1) default
def sumJ (xs : List It) (wd : Nat → Int) (tol : Int) (bs : List Int) : Nat → Option Int
  | 0 => some 0
  | j + 1 => match sumJ xs wd tol bs j with
    | none => none
    | some s => match lc xs (wd j) tol (frm bs j) (bs.getD j default) with
      | none => none
      | some c => some (s + c)
def chkP (xs : List It) (wd : Nat → Int) (tol : Int) (bs : List Int) : Option Int := if bs.length = 0 then none else if frm bs bs.length = (xs.length : Int) - 1 then sumJ xs wd tol bs bs.length else none
theorem frm_succ (bs : List Int) (j : Nat) : frm bs (j + 1) = bs.getD j default := by rw [frm, if_neg (by omega), Nat.add_sub_cancel]
section
variable {xs : List It} {wd : Nat → Int} {tol : Int} {bs : List Int} {j : Nat} {s d f t : Int}
theorem lc_line (h : lnOk xs f t = false) : lc xs d tol f t = none := by rw [lc, h]; rfl
theorem lc_at {a u : Nat} (hf : f = (a : Int) - 1) (ht : t = (u : Int)) (h : lnOk xs f t = true) : lc xs d tol f t = if costOk xs a u d tol then some (costV xs a u d tol) else none := by
  subst hf ht
  rw [lc, h, Bool.true_and, show ((a : Int) - 1 + 1).toNat = a by omega, Int.toNat_natCast]
theorem costV_b {n a u : Nat} (hok : itemsOk xs = true) (hn : xs.length = n) (hu : u < n) (d0 : 1 ≤ d) (d1 : d ≤ 10000) : -200000000 ≤ costV xs a u d tol ∧ costV xs a u d tol ≤ 200000000 := by
  obtain ⟨b0, b1⟩ := lnB_b (a := a) hok hn hu (show 0 ≤ d by omega) d1
  obtain ⟨_, _, _, ⟨p0, p1⟩, _⟩ := itemOk_b (itemsOk_at hok hn hu rfl)
  have := dem_b (flg xs a u) b0 b1 p0 p1
  unfold costV
  split <;> omega
theorem lc_some {n : Nat} {c : Int} (hok : itemsOk xs = true) (hn : xs.length = n) (d0 : 1 ≤ d) (d1 : d ≤ 10000) (h : lc xs d tol f t = some c) : f < t ∧ -1 ≤ f ∧ t < (n : Int) ∧ -200000000 ≤ c ∧ c ≤ 200000000 := by
  rcases hl : lnOk xs f t with _ | _
  · rw [lc_line hl] at h; cases h
  · obtain ⟨a, u, hf, ht, h1, h2, _⟩ := ln_iff hn hl
    rw [lc_at hf ht hl] at h
    split at h
    · injection h with h
      have := costV_b (a := a) (tol := tol) hok hn h2 d0 d1
      omega
    · cases h
theorem sumJ_no1 (hs : sumJ xs wd tol bs j = some s) (h : lc xs (wd j) tol (frm bs j) (bs.getD j default) = none) : sumJ xs wd tol bs (j + 1) = none := by rw [sumJ, hs]; simp only [h]
theorem sumJ_yes {c : Int} (hs : sumJ xs wd tol bs j = some s) (h : lc xs (wd j) tol (frm bs j) (bs.getD j default) = some c) : sumJ xs wd tol bs (j + 1) = some (s + c) := by rw [sumJ, hs]; simp only [h]
theorem sumJ_stop (h : sumJ xs wd tol bs j = none) (i : Nat) : sumJ xs wd tol bs (j + i) = none := by
  induction i with
  | zero => exact h
  | succ i ih => rw [← Nat.add_assoc, sumJ, ih]
theorem chk_none {n : Nat} (hn : bs.length = n) (h : sumJ xs wd tol bs (j + 1) = none) (hj : j < n) : chkP xs wd tol bs = none := by
  have := sumJ_stop h (n - (j + 1))
  rw [show j + 1 + (n - (j + 1)) = n by omega] at this
  rw [chkP, hn, this]
  split
  · rfl
  · split <;> rfl
theorem chk_zero (hn : bs.length = 0) : chkP xs wd tol bs = none := by rw [chkP, if_pos hn]
theorem chk_last {n : Nat} (hn : bs.length = n + 1) (h : ¬ bs.getD n default = (xs.length : Int) - 1) : chkP xs wd tol bs = none := by
  rw [chkP, if_neg (by omega), hn, frm_succ, if_neg h]
theorem chk_end {n : Nat} (hn : bs.length = n + 1) (h : bs.getD n default = (xs.length : Int) - 1) : chkP xs wd tol bs = sumJ xs wd tol bs (n + 1) := by
  rw [chkP, if_neg (by omega), hn, frm_succ, if_pos h]
theorem sumJ_b {n : Nat} (hok : itemsOk xs = true) (hn : xs.length = n) (hwd : ∀ k, 1 ≤ wd k ∧ wd k ≤ 10000) : ∀ (j : Nat) (s : Int), sumJ xs wd tol bs j = some s → (j : Int) ≤ frm bs j + 1 ∧ frm bs j < (n : Int) ∧ -200000000 * (j : Int) ≤ s ∧ s ≤ 200000000 * (j : Int) := by
  intro j
  induction j with
  | zero => intro s h; rw [sumJ] at h; cases h; have := (itemsOk_len hok hn).1; simp [frm]; omega
  | succ j ih =>
    intro s h
    rcases hs : sumJ xs wd tol bs j with _ | s'
    · rw [sumJ, hs] at h; cases h
    · obtain ⟨h1, h2, h3, h4⟩ := ih s' hs
      rcases hc : lc xs (wd j) tol (frm bs j) (bs.getD j default) with _ | c
      · rw [sumJ_no1 hs hc] at h; cases h
      · rw [sumJ_yes hs hc] at h
        cases h
        obtain ⟨k1, k2, k3, k4, k5⟩ := lc_some hok hn (hwd j).1 (hwd j).2 hc
        rw [frm_succ]
        omega
end
end Go.Proofs.Ytkmipgekmbngcaa
/- The cost of a step between the nodes of a paragraph: -1 and all items. No program. No condition. -/
namespace Go.Proofs.Ytkmipgekmbngcaa

/-- The cost of a step from node to node: node 0 is the beginning, node i + 1 is item i. -/
def ndC (xs : List It) (d tol : Int) (k i : Nat) : Option Int := lc xs d tol ((k : Int) - 1) ((i : Int) - 1)
end Go.Proofs.Ytkmipgekmbngcaa
/- The cheapest way through numbered stops, in plain terms: the table of least costs, the way back, and that no way is cheaper. No program. No condition. -/
namespace Go.Proofs.Ytkmipgekmbngcaa.Dp

/-- One candidate more: the way over stop k is taken if it is cheaper than what is known. -/
def upd (t : Nat → Option (Int × Nat)) (c : Nat → Option Int) (cur : Option (Int × Nat)) (k : Nat) : Option (Int × Nat) :=
  match t k with
  | none => cur
  | some q => match c k with
    | none => cur
    | some s => match cur with
      | none => some (q.1 + s, k)
      | some b => if q.1 + s < b.1 then some (q.1 + s, k) else some b

def best (t : Nat → Option (Int × Nat)) (c : Nat → Option Int) (m : Nat) : Option (Int × Nat) := (List.range m).foldl (upd t c) none

theorem best_zero (t : Nat → Option (Int × Nat)) (c : Nat → Option Int) : best t c 0 = none := rfl
theorem best_succ (t : Nat → Option (Int × Nat)) (c : Nat → Option Int) (m : Nat) : best t c (m + 1) = upd t c (best t c m) m := by
  unfold best; rw [List.range_succ, List.foldl_append]; rfl
theorem best_congr {t t' : Nat → Option (Int × Nat)} {c c' : Nat → Option Int} {m : Nat} (h : ∀ k, k < m → t k = t' k ∧ c k = c' k) : best t c m = best t' c' m := by
  induction m with
  | zero => rfl
  | succ m ih =>
    rw [best_succ, best_succ, ih (fun k hk => h k (by omega))]
    unfold upd
    rw [(h m (by omega)).1, (h m (by omega)).2]

/-- What the best candidate is: it is one; none is cheaper; each one before it is dearer. -/
theorem best_spec (t : Nat → Option (Int × Nat)) (c : Nat → Option Int) (m : Nat) :
    (∀ v k, best t c m = some (v, k) → k < m ∧ (∃ q s, t k = some q ∧ c k = some s ∧ v = q.1 + s) ∧
      (∀ j q s, j < m → t j = some q → c j = some s → v ≤ q.1 + s) ∧ ∀ j q s, j < k → t j = some q → c j = some s → v < q.1 + s) ∧
    (best t c m = none → ∀ j q s, j < m → t j = some q → c j = some s → False) := by
  induction m with
  | zero => exact ⟨by intro v k h; simp [best_zero] at h, by intro _ j q s hj; omega⟩
  | succ m ih =>
    rw [best_succ]
    unfold upd
    obtain ⟨ih1, ih2⟩ := ih
    rcases ht : t m with _ | q
    · refine ⟨fun v k h => ?_, fun h j q s hj hq hs => ?_⟩
      · obtain ⟨h1, h2, h3, h4⟩ := ih1 v k h
        refine ⟨by omega, h2, fun j q s hj hq hs => ?_, h4⟩
        rcases Nat.lt_or_ge j m with hlt | hge
        · exact h3 j q s hlt hq hs
        · obtain rfl : j = m := by omega
          rw [ht] at hq; cases hq
      · rcases Nat.lt_or_ge j m with hlt | hge
        · exact ih2 h j q s hlt hq hs
        · obtain rfl : j = m := by omega
          rw [ht] at hq; cases hq
    · rcases hc : c m with _ | s0
      · refine ⟨fun v k h => ?_, fun h j q s hj hq hs => ?_⟩
        · obtain ⟨h1, h2, h3, h4⟩ := ih1 v k h
          refine ⟨by omega, h2, fun j q s hj hq hs => ?_, h4⟩
          rcases Nat.lt_or_ge j m with hlt | hge
          · exact h3 j q s hlt hq hs
          · obtain rfl : j = m := by omega
            rw [hc] at hs; cases hs
        · rcases Nat.lt_or_ge j m with hlt | hge
          · exact ih2 h j q s hlt hq hs
          · obtain rfl : j = m := by omega
            rw [hc] at hs; cases hs
      · rcases hb : best t c m with _ | ⟨v0, k0⟩
        · simp only
          refine ⟨fun v k h => ?_, fun h => by cases h⟩
          simp only [Option.some.injEq, Prod.mk.injEq] at h
          obtain ⟨rfl, rfl⟩ := h
          refine ⟨by omega, ⟨q, s0, ht, hc, rfl⟩, fun j q' s' hj hq hs => ?_, fun j q' s' hj hq hs => absurd (ih2 hb j q' s' hj hq hs) id⟩
          rcases Nat.lt_or_ge j m with hlt | hge
          · exact absurd (ih2 hb j q' s' hlt hq hs) id
          · obtain rfl : j = m := by omega
            rw [ht] at hq; rw [hc] at hs; cases hq; cases hs; exact Int.le_refl _
        · obtain ⟨h1, h2, h3, h4⟩ := ih1 v0 k0 hb
          simp only
          by_cases hlt : q.1 + s0 < v0
          · rw [if_pos hlt]
            refine ⟨fun v k h => ?_, fun h => by cases h⟩
            simp only [Option.some.injEq, Prod.mk.injEq] at h
            obtain ⟨rfl, rfl⟩ := h
            refine ⟨by omega, ⟨q, s0, ht, hc, rfl⟩, fun j q' s' hj hq hs => ?_, fun j q' s' hj hq hs => ?_⟩
            · rcases Nat.lt_or_ge j m with hl | hge
              · have := h3 j q' s' hl hq hs; omega
              · obtain rfl : j = m := by omega
                rw [ht] at hq; rw [hc] at hs; cases hq; cases hs; exact Int.le_refl _
            · have := h3 j q' s' hj hq hs; omega
          · rw [if_neg hlt]
            refine ⟨fun v k h => ?_, fun h => by cases h⟩
            simp only [Option.some.injEq, Prod.mk.injEq] at h
            obtain ⟨rfl, rfl⟩ := h
            refine ⟨by omega, h2, fun j q' s' hj hq hs => ?_, h4⟩
            rcases Nat.lt_or_ge j m with hl | hge
            · exact h3 j q' s' hl hq hs
            · obtain rfl : j = m := by omega
              rw [ht] at hq; rw [hc] at hs; cases hq; cases hs; omega

/-- The table over the stops below n. -/
def T (c : Nat → Nat → Option Int) : Nat → Nat → Option (Int × Nat)
  | 0, _ => none
  | n + 1, i => if i = n then (if n = 0 then some (0, 0) else best (T c n) (fun k => c k n) n) else T c n i
def tbl (c : Nat → Nat → Option Int) (i : Nat) : Option (Int × Nat) := T c (i + 1) i

theorem T_tbl (c : Nat → Nat → Option Int) (n i : Nat) (h : i < n) : T c n i = tbl c i := by
  induction n with
  | zero => omega
  | succ n ih =>
    by_cases e : i = n
    · subst e; rfl
    · have : T c (n + 1) i = T c n i := by show (if i = n then _ else _) = _; rw [if_neg e]
      rw [this, ih (by omega)]
theorem tbl_zero (c : Nat → Nat → Option Int) : tbl c 0 = some (0, 0) := rfl
theorem tbl_pos (c : Nat → Nat → Option Int) (i : Nat) (h : 0 < i) : tbl c i = best (tbl c) (fun k => c k i) i := by
  unfold tbl
  show (if i = i then (if i = 0 then some (0, 0) else best (T c i) (fun k => c k i) i) else T c i i) = _
  rw [if_pos rfl, if_neg (by omega)]
  exact best_congr fun k hk => ⟨T_tbl c i k hk, rfl⟩

theorem tbl_some {c : Nat → Nat → Option Int} {i : Nat} {v : Int} {k : Nat} (hi : 0 < i) (h : tbl c i = some (v, k)) :
    k < i ∧ ∃ u k' s, tbl c k = some (u, k') ∧ c k i = some s ∧ v = u + s := by
  rw [tbl_pos c i hi] at h
  obtain ⟨h1, ⟨q, s, h2, h3, h4⟩, _⟩ := (best_spec _ _ _).1 v k h
  exact ⟨h1, q.1, q.2, s, h2, h3, h4⟩
theorem tbl_le {c : Nat → Nat → Option Int} {k i : Nat} {u : Int} {k' : Nat} {s : Int} (hi : k < i) (hk : tbl c k = some (u, k')) (hs : c k i = some s) :
    ∃ v f, tbl c i = some (v, f) ∧ v ≤ u + s := by
  rw [tbl_pos c i (by omega)]
  rcases hb : best (tbl c) (fun k => c k i) i with _ | ⟨v, f⟩
  · exact absurd ((best_spec _ _ _).2 hb k (u, k') s hi hk hs) id
  · exact ⟨v, f, rfl, ((best_spec _ _ _).1 v f hb).2.2.1 k (u, k') s hi hk hs⟩

/-- Costs of at most M each: a cost at stop i is at most i * M. -/
theorem tbl_bound {c : Nat → Nat → Option Int} {M : Int} (hM : 0 ≤ M) (hc : ∀ k i s, k < i → c k i = some s → -M ≤ s ∧ s ≤ M) (i : Nat) :
    ∀ v k, tbl c i = some (v, k) → -(i * M) ≤ v ∧ v ≤ i * M := by
  induction i using Nat.strongRecOn with
  | _ i ih =>
    intro v k h
    rcases Nat.eq_zero_or_pos i with rfl | hi
    · rw [tbl_zero] at h; cases h; simp
    · obtain ⟨hk, u, k', s, h1, h2, rfl⟩ := tbl_some hi h
      obtain ⟨a1, a2⟩ := ih k hk u k' h1
      obtain ⟨b1, b2⟩ := hc k i s hk h2
      have hle : (k : Int) * M + M ≤ i * M := by
        have : ((k + 1 : Nat) : Int) * M ≤ i * M := Int.mul_le_mul_of_nonneg_right (by omega) hM
        rw [Int.natCast_add, Int.add_mul] at this
        simpa using this
      exact ⟨by omega, by omega⟩

/-- The stops of the way to stop i, stop 0 left out. -/
def pathF (c : Nat → Nat → Option Int) : Nat → Nat → List Nat
  | 0, _ => []
  | f + 1, i => if i = 0 then [] else match tbl c i with
    | some (_, k) => pathF c f k ++ [i]
    | none => []
def path (c : Nat → Nat → Option Int) (i : Nat) : List Nat := pathF c i i
theorem pathF_eq (c : Nat → Nat → Option Int) : ∀ (f g i : Nat), i ≤ f → i ≤ g → pathF c f i = pathF c g i := by
  intro f
  induction f with
  | zero => intro g i hf _; obtain rfl : i = 0 := by omega
            cases g <;> simp [pathF]
  | succ f ih =>
    intro g i hf hg
    cases g with
    | zero => obtain rfl : i = 0 := by omega
              simp [pathF]
    | succ g =>
      rcases Nat.eq_zero_or_pos i with rfl | hi
      · simp [pathF]
      · unfold pathF
        rw [if_neg (by omega), if_neg (by omega)]
        rcases h : tbl c i with _ | ⟨v, k⟩
        · rfl
        · have := (tbl_some hi h).1
          simp only
          rw [ih g k (by omega) (by omega)]
theorem path_zero (c : Nat → Nat → Option Int) : path c 0 = [] := rfl
theorem path_pos {c : Nat → Nat → Option Int} {i : Nat} {v : Int} {k : Nat} (hi : 0 < i) (h : tbl c i = some (v, k)) : path c i = path c k ++ [i] := by
  have hk := (tbl_some hi h).1
  unfold path
  obtain ⟨j, rfl⟩ : ∃ j, i = j + 1 := ⟨i - 1, by omega⟩
  show (if j + 1 = 0 then [] else match tbl c (j + 1) with | some (_, k) => pathF c j k ++ [j + 1] | none => []) = _
  rw [if_neg (by omega), h]
  simp only
  rw [pathF_eq c j k k (by omega) (Nat.le_refl _)]

/-- The cost of a way that goes on from stop a. -/
def cost (c : Nat → Nat → Option Int) : Nat → List Nat → Option Int
  | _, [] => some 0
  | a, b :: r => match c a b with
    | none => none
    | some x => match cost c b r with
      | none => none
      | some y => some (x + y)
theorem cost_snoc (c : Nat → Nat → Option Int) (l : List Nat) : ∀ (a b : Nat), cost c a (l ++ [b]) = match cost c a l with
    | none => none
    | some x => match c ((a :: l).getLastD 0) b with
      | none => none
      | some y => some (x + y) := by
  induction l with
  | nil => intro a b; simp only [List.nil_append, cost, List.getLastD_cons, List.getLastD_nil]; cases c a b <;> simp
  | cons d r ih =>
    intro a b
    simp only [List.cons_append, cost]
    rw [ih d b]
    simp only [List.getLastD_cons]
    cases c a d with
    | none => rfl
    | some x =>
      simp only
      cases cost c d r with
      | none => rfl
      | some y =>
        simp only
        cases c ((r.getLastD d)) b with
        | none => rfl
        | some z => simp [Int.add_assoc]
end Go.Proofs.Ytkmipgekmbngcaa.Dp
