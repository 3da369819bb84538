/- Tables in memory: slices of slices of cells; copies and comparisons. Conditions: the slices read as lists; at most 2^20 elements where a row is made. -/
import Derived.Test.YtbkhimdebpllcaaCellS
namespace Go.Proofs.Ytbkhimdebpllcaa
open Go.RowKit

def rl (rs : List (List Cl)) (i : Nat) : List Cl := rs.getD i default
/-- A slice of slices that reads as a table. -/
def Tab (w : World) (B : Nat) (A : Option Addr) (n : Nat) (rs : List (List Cl)) : Prop :=
  rs.length = n ∧ ∃ (As : Nat → Option Addr) (cs : Nat → Nat), Row w B 1 A n (fun i _ => .slice (As i) (rl rs i).length (cs i)) ∧ ∀ i, i < n → (rl rs i).length ≤ maxLen ∧ Row w B 2 (As i) (rl rs i).length (clc (rl rs i))
section
variable {w w' : World} {B B' n : Nat} {A : Option Addr} {rs : List (List Cl)}
theorem Tab.len (h : Tab w B A n rs) : rs.length = n := h.1
theorem Tab.below (h : Tab w B A n rs) (hb : Below B w w') : Tab w' B A n rs := by
  obtain ⟨h1, As, cs, h2, h3⟩ := h
  exact ⟨h1, As, cs, h2.below hb, fun i hi => ⟨(h3 i hi).1, (h3 i hi).2.below hb⟩⟩
theorem Tab.more (h : Tab w B A n rs) (hB : B ≤ B') : Tab w B' A n rs := by
  obtain ⟨h1, As, cs, h2, h3⟩ := h
  exact ⟨h1, As, cs, h2.more hB, fun i hi => ⟨(h3 i hi).1, (h3 i hi).2.more hB⟩⟩
theorem Tab.then_ (h : Tab w w.heap.size A n rs) (hb : Below w.heap.size w w') : Tab w' w'.heap.size A n rs := (h.below hb).more hb.size
theorem Tab.alloc' (h : Tab w w.heap.size A n rs) (o : Obj) : Tab (w.alloc o) (w.alloc o).heap.size A n rs := h.then_ ((Below.refl _ _).alloc (Nat.le_refl _) o)
end
/-- How many elements a table has, rows counted too. -/
def tot (rs : List (List Cl)) : Nat := rs.length + (rs.map List.length).sum
theorem len_le_tot {rs : List (List Cl)} {n i : Nat} (hn : rs.length = n) (hi : i < n) : (rl rs i).length + n ≤ tot rs := by
  have hm : rl rs i ∈ rs := mem_of_getD hn hi rfl
  have key : ∀ (l : List (List Cl)) (x : List Cl), x ∈ l → x.length ≤ (l.map List.length).sum := by
    intro l
    induction l with
    | nil => intro x h; cases h
    | cons y r ih =>
      intro x h
      simp only [List.map_cons, List.sum_cons]
      rcases List.mem_cons.1 h with rfl | h
      · omega
      · have := ih x h; omega
  have := key rs _ hm
  unfold tot
  omega

set_option maxHeartbeats 1000000 in
theorem szCellSS_any (A : Option Addr) (n cap : Nat) (rs : List (List Cl)) (w : World) (hm : n ≤ maxLen) (hr : Tab w w.heap.size A n rs) :
    Calls Try.prog 18 #[.slice A n cap, .int .i64 1048576] w fun e w' => (∃ v : Int, e = .returned (.int .i64 v) ∧ (1048576 < tot rs → v < 0) ∧ (tot rs ≤ 1048576 → 0 ≤ v)) ∧ Below w.heap.size w w' := by
  unfold maxLen at hm
  obtain ⟨hn, As, cs, h2, h3⟩ := hr
  have HN := Lib.hid hn
  have H3 := Lib.hid h3
  clear h3 hn
  by_cases hbig : 1048576 < n
  · have ht : 1048576 < tot rs := by have := HN.out; unfold tot; omega
    go_enter Try.func18, Try.ntmps18
    go_wp2
    go_ret
    exact ⟨⟨-1, rfl, fun _ => by omega, fun h => by omega⟩, Below.refl _ _⟩
  have htk : ∀ j, j ≤ n → tot rs = n + ((rs.take j).map List.length).sum + ((rs.drop j).map List.length).sum := fun j _ => by
    unfold tot
    rw [HN.out]
    have : (rs.map List.length).sum = ((rs.take j).map List.length).sum + ((rs.drop j).map List.length).sum := by
      rw [← List.sum_append, ← List.map_append, List.take_append_drop]
    omega
  have HTK := Lib.hid htk
  clear htk
  go_enter Try.func18, Try.ntmps18
  go_wp2_with fail
  go_loopg [1, 5] n (fun k l i wr => ∃ j s : Nat, j ≤ n ∧ k = n - j ∧ i = .int .i64 (j : Int) ∧ l = .int .i64 (1048576 - (n : Int) - (s : Int)) ∧ Hid (((rs.take j).map List.length).sum = s) ∧ s + n ≤ 1048576 ∧ Below w.heap.size w wr)
  case atStart => exact ⟨0, 0, Nat.zero_le _, rfl, rfl, by go_num, rfl, by omega, Below.refl _ _⟩
  case round =>
    obtain ⟨j, s, hj, hk, rfl, rfl, hs, hsn, hbel⟩ := hrel
    have HK := Lib.hid hk; clear hk
    have hsz := hbel.size
    by_cases hlt : j < n
    · obtain ⟨b, off, rfl, hb, hc⟩ := h2.at1 (by omega)
      have c0 : wr.cell? ⟨b, off + j, none⟩ = _ := (hbel.cell (p := ⟨b, off + j, none⟩) hb).trans (hc j hlt)
      have hlm := (H3.out j hlt).1
      obtain ⟨m, hm'⟩ : ∃ m, (rl rs j).length = m := ⟨_, rfl⟩
      rw [hm'] at c0 hlm
      have hs2 : ((rs.take (j + 1)).map List.length).sum = s + m := by
        rw [tk_snoc' HN.out hlt rfl, List.map_append, List.sum_append, hs.out]
        simp only [List.map_cons, List.map_nil, List.sum_cons, List.sum_nil]
        have : (rs.getD j default).length = m := hm'
        omega
      have HS2 := Lib.hid hs2
      have hjn : (j : Int) < (n : Int) := by omega
      clear hs2 hm' hc
      go_wp2_with fail
      ((with_reducible refine (szCellS_any _ _ _ _ _ hlm (by omega) (by omega)).mono ?_); rintro e w' ⟨rfl, rfl⟩)
      by_cases hc2 : 1048576 - (n : Int) - (s : Int) < (m : Int)
      · rw [if_pos hc2]
        have ht : 1048576 < tot rs := by have := HTK.out (j + 1) (by omega); rw [HS2.out] at this; omega
        go_wp2_with fail
        go_ret
        exact ⟨⟨-1, rfl, fun _ => by omega, fun h => by omega⟩, hbel⟩
      · rw [if_neg hc2]
        go_wp2_with fail
        go_roundg (n - (j + 1))
        case measure => have := HK.out; omega
        case rel => exact ⟨j + 1, s + m, by omega, rfl, by go_num, by go_num, HS2.out, by omega, by (repeat' (first | (with_reducible exact Below.refl _ _) | (with_reducible assumption) | (with_reducible refine Below.alloc ?_ ?_ _) | (with_reducible refine Below.drew ?_) | (with_reducible refine below_drewN ?_ _) | (with_reducible refine Below.setCell ?_ ?_ _) | (with_reducible refine below_then ?_ ?_ (by with_reducible assumption)) | (with_reducible exact Nat.le_refl _) | go_size | (simp only [*]; done)))⟩
    · have ej : j = n := by omega
      have ht : tot rs = n + s := by
        have h1 := HTK.out n (Nat.le_refl _)
        have h4 := hs.out
        rw [ej] at h4
        rw [h4, List.drop_of_length_le (by rw [HN.out]; exact Nat.le_refl _)] at h1
        simpa using h1
      go_wp2_with fail
      go_ret
      exact ⟨⟨_, rfl, fun h => by omega, fun h => by omega⟩, hbel⟩

set_option maxHeartbeats 1000000 in
theorem eqCellSS_same (A A' : Option Addr) (n cap cap' : Nat) (rs : List (List Cl)) (w : World) (hm : n ≤ maxLen) (hr : Tab w w.heap.size A n rs) (hr' : Tab w w.heap.size A' n rs) :
    Calls Try.prog 22 #[.slice A n cap, .slice A' n cap'] w fun e w' => e = .returned (.bool true) ∧ Below w.heap.size w w' := by
  unfold maxLen at hm
  obtain ⟨_, As, cs, h2, h3⟩ := hr
  obtain ⟨_, As', cs', h2', h3'⟩ := hr'
  have H3 := Lib.hid h3
  have H3' := Lib.hid h3'
  clear h3 h3'
  go_enter Try.func22, Try.ntmps22
  go_wp2_with fail
  go_loopg [5] n (fun k i wr => ∃ j : Nat, j ≤ n ∧ k = n - j ∧ i = .int .i64 j ∧ Below w.heap.size w wr)
  case atStart => exact ⟨0, Nat.zero_le _, rfl, rfl, Below.refl _ _⟩
  case round =>
    obtain ⟨j, hj, hk, rfl, hbel⟩ := hrel
    have HK := Lib.hid hk; clear hk
    have hsz := hbel.size
    by_cases hlt : j < n
    · obtain ⟨b', off', rfl, hb', hc'⟩ := h2'.at1 (by omega)
      have d0 : wr.cell? ⟨b', off' + j, none⟩ = _ := (hbel.cell (p := ⟨b', off' + j, none⟩) hb').trans (hc' j hlt)
      obtain ⟨b, off, rfl, hb, hc⟩ := h2.at1 (by omega)
      have c0 : wr.cell? ⟨b, off + j, none⟩ = _ := (hbel.cell (p := ⟨b, off + j, none⟩) hb).trans (hc j hlt)
      obtain ⟨hlm, hi⟩ := H3.out j hlt
      have hi' := (H3'.out j hlt).2
      obtain ⟨x, hx⟩ : ∃ x, rl rs j = x := ⟨_, rfl⟩
      rw [hx] at c0 d0 hlm hi hi'
      obtain ⟨m, hm'⟩ : ∃ m, x.length = m := ⟨_, rfl⟩
      rw [hm'] at c0 d0 hlm hi hi'
      obtain ⟨C, hC⟩ : ∃ C, cs j = C := ⟨_, rfl⟩
      obtain ⟨C', hC'⟩ : ∃ C', cs' j = C' := ⟨_, rfl⟩
      obtain ⟨D, hD⟩ : ∃ D, As j = D := ⟨_, rfl⟩
      obtain ⟨D', hD'⟩ : ∃ D', As' j = D' := ⟨_, rfl⟩
      rw [hC, hD] at c0
      rw [hC', hD'] at d0
      rw [hD] at hi
      rw [hD'] at hi'
      have HI := Lib.hid hi
      have HI' := Lib.hid hi'
      clear hc hc' hx hm' hC hC' hD hD' hi hi'
      have hlt' : (j : Int) < (n : Int) := by omega
      have hbw : b < wr.heap.size := by omega
      have hbw' : b' < wr.heap.size := by omega
      go_wp2_with fail
      go_region_held3 (fun w' => w'.cell? ⟨b, off + j, none⟩ = some (.slice D m C) ∧ w'.cell? ⟨b', off' + j, none⟩ = some (.slice D' m C') ∧ Below w.heap.size w w')
        (first | exact ⟨c0, d0, hbel⟩ | exact ⟨c0, d0, hbel.drew⟩ | exact ⟨e0, e1, below_then (Nat.le_refl _) hbel.drew hb1⟩)
        (first | (go_at_call 41; refine (eqCellS_same _ _ _ _ _ x _ hlm (by first | exact (HI.out.below hbel).more hsz | exact (HI.out.below hbel.drew).more hsz) (by first | exact (HI'.out.below hbel).more hsz | exact (HI'.out.below hbel.drew).more hsz)).mono ?_; rintro e w' ⟨rfl, hb1⟩; have e0 := (hb1.cell (p := ⟨b, off + j, none⟩) hbw).trans c0; have e1 := (hb1.cell (p := ⟨b', off' + j, none⟩) hbw').trans d0))
      go_wp2_with fail
      go_roundg (n - (j + 1))
      case measure => have := HK.out; omega
      case rel => exact ⟨j + 1, by omega, rfl, by go_num, by (repeat' (first | (with_reducible exact Below.refl _ _) | (with_reducible assumption) | (with_reducible refine Below.alloc ?_ ?_ _) | (with_reducible refine Below.drew ?_) | (with_reducible refine below_drewN ?_ _) | (with_reducible refine Below.setCell ?_ ?_ _) | (with_reducible refine below_then ?_ ?_ (by with_reducible assumption)) | (with_reducible exact Nat.le_refl _) | go_size | (simp only [*]; done)))⟩
    · go_wp2_with fail
      go_ret
      exact ⟨rfl, hbel⟩

/-- A table of the call's own: the rows lie in blocks of their own. -/
def OwnT (w : World) (base g n : Nat) (G : Nat → Nat) (rs : List (List Cl)) : Prop :=
  rs.length = n ∧ OwnP w base 43 1 (some ⟨g, 0, none⟩) n n (fun i _ => .slice (some ⟨G i, 0, none⟩) (rl rs i).length (rl rs i).length) ∧
    (∀ i, i < n → g < G i ∧ OwnP w base 46 2 (some ⟨G i, 0, none⟩) (rl rs i).length (rl rs i).length (clc (rl rs i))) ∧ ∀ i j, i < j → j < n → G i < G j
theorem OwnT.tab {w : World} {base g n : Nat} {G : Nat → Nat} {rs : List (List Cl)} (h : OwnT w base g n G rs) : Tab w w.heap.size (some ⟨g, 0, none⟩) n rs := by
  obtain ⟨h1, h2, h3, _⟩ := h
  exact ⟨h1, fun i => some ⟨G i, 0, none⟩, fun i => (rl rs i).length, h2.row, fun i hi => ⟨(h3 i hi).2.cap.2, (h3 i hi).2.row⟩⟩
theorem OwnT.then_ {w w' : World} {base g n : Nat} {G : Nat → Nat} {rs : List (List Cl)} (h : OwnT w base g n G rs) (hb : Below w.heap.size w w') : OwnT w' base g n G rs := by
  obtain ⟨h1, h2, h3, h4⟩ := h
  exact ⟨h1, h2.then_ hb, fun i hi => ⟨(h3 i hi).1, (h3 i hi).2.then_ hb⟩, h4⟩

theorem cellS_info : (Try.prog.info? 43).map (fun i => (i.zero, i.size, i.bytes)) = some (some (.slice none 0 0), 1, 24) := by kernel_rfl
theorem ss_step {n j : Nat} {f : Nat → Nat → Value} {v z : Value} : ∀ i q, i < n → q < 1 → (if i = j ∧ q = 0 then v else if i < j then f i q else z) = if i < j + 1 then (if i = j then v else f i q) else z := by
  intro i q _ hq
  obtain rfl : q = 0 := by omega
  by_cases e : i = j
  · subst e; simp
  · have e2 : (i < j + 1) = (i < j) := by simp; omega
    simp [e, e2]

set_option maxHeartbeats 2000000 in
theorem toCellSS_any (A : Option Addr) (n cap : Nat) (rs : List (List Cl)) (w : World) (hm : tot rs ≤ 1048576) (hr : Tab w w.heap.size A n rs) :
    Calls Try.prog 20 #[.slice A n cap] w fun e w' => e = .returned (.slice (some ⟨w.heap.size, 0, none⟩) n n) ∧ (∃ G, OwnT w' w.heap.size w.heap.size n G rs) ∧ Below w.heap.size w w' := by
  obtain ⟨hn, As, cs, h2, h3⟩ := hr
  have hn1 : n ≤ 1048576 := by have := hm; unfold tot at this; omega
  obtain ⟨i0, hi, hz0, hz1, hz2⟩ := info_parts cellS_info
  have hmk := make_n (P := Try.prog) 31 43 i0 _ Try.underlying31 hi hz0 n (by rw [hz2]; omega) (by omega)
  rw [hz1] at hmk
  have hmd : OwnP (w.alloc (.cells (madeCells #[.slice none 0 0] n) 43)) w.heap.size 43 1 (some ⟨w.heap.size, 0, none⟩) n n (fun _ q => #[Value.slice none 0 0][q]!) := by
    have h := OwnP.made w 43 #[.slice none 0 0] n (by simp) (by unfold maxLen; omega)
    rwa [show n * (#[Value.slice none 0 0] : Array Value).size = n from Nat.mul_one n] at h
  have HMD := Lib.hid hmd
  have HN := Lib.hid hn
  have H3 := Lib.hid h3
  have HM := Lib.hid hm
  clear hn h3 hm
  go_enter Try.func20, Try.ntmps20
  go_wp2_with fail
  go_loopg [4] n (fun k i wr => ∃ (j : Nat) (G : Nat → Nat), j ≤ n ∧ k = n - j ∧ i = .int .i64 j ∧ Hid (OwnP wr w.heap.size 43 1 (some ⟨w.heap.size, 0, none⟩) n n (fun i _ => if i < j then .slice (some ⟨G i, 0, none⟩) (rl rs i).length (rl rs i).length else .slice none 0 0)) ∧
    Hid (∀ i, i < j → w.heap.size < G i ∧ G i < wr.heap.size ∧ OwnP wr w.heap.size 46 2 (some ⟨G i, 0, none⟩) (rl rs i).length (rl rs i).length (clc (rl rs i))) ∧ Hid (∀ i k, i < k → k < j → G i < G k) ∧ Below w.heap.size w wr)
  case atStart => exact ⟨0, fun _ => 0, Nat.zero_le _, rfl, rfl, HMD.out.congr (fun i q _ hq => by (have hq' : q < 1 := hq); simp; match q, hq' with | 0, _ => rfl), fun i h => by omega, fun i k _ h => by omega, by (repeat' (first | (with_reducible exact Below.refl _ _) | (with_reducible assumption) | (with_reducible refine Below.alloc ?_ ?_ _) | (with_reducible refine Below.drew ?_) | (with_reducible refine below_drewN ?_ _) | (with_reducible refine Below.setCell ?_ ?_ _) | (with_reducible refine below_then ?_ ?_ (by with_reducible assumption)) | (with_reducible exact Nat.le_refl _) | go_size | (simp only [*]; done)))⟩
  case round =>
    obtain ⟨j, G, hj, hk, rfl, hown, hin, hinc, hbel⟩ := hrel
    have HK := Lib.hid hk; clear hk
    have hsz := hbel.size
    have olt := hown.out.lt
    by_cases hlt : j < n
    · obtain ⟨b, off, rfl, hb, hc⟩ := h2.at1 (by omega)
      have c0 : wr.cell? ⟨b, off + j, none⟩ = _ := (hbel.cell (p := ⟨b, off + j, none⟩) hb).trans (hc j hlt)
      obtain ⟨_, hi3⟩ := H3.out j hlt
      have hlen := len_le_tot HN.out hlt
      obtain ⟨x, hx⟩ : ∃ x, rl rs j = x := ⟨_, rfl⟩
      rw [hx] at c0 hi3 hlen
      obtain ⟨m, hm'⟩ : ∃ m, x.length = m := ⟨_, rfl⟩
      rw [hm'] at c0 hi3 hlen
      obtain ⟨C, hC⟩ : ∃ C, cs j = C := ⟨_, rfl⟩
      obtain ⟨D, hD⟩ : ∃ D, As j = D := ⟨_, rfl⟩
      rw [hC, hD] at c0
      rw [hD] at hi3
      have hm1 : m ≤ 1048576 := by have := HM.out; omega
      have HX := Lib.hid hx
      have HM' := Lib.hid hm'
      have HI := Lib.hid hi3
      have o0 : wr.cell? ⟨w.heap.size, j, none⟩ = _ := hown.out.cell1 hlt
      have of0 := hown.out.frozen j
      have hjn : (j : Int) < (n : Int) := by omega
      simp only [Nat.lt_irrefl, if_false] at o0
      clear hc hx hm' hC hD hi3 hlen
      go_wp2_with fail
      ((with_reducible refine (toCellS_any _ _ _ x _ HM'.out hm1 ?_).mono ?_); (exact (HI.out.below hbel).more hsz); rintro e w1 ⟨rfl, hnew, hb1⟩)
      have hz1 := hb1.size
      have hnl := hnew.lt
      have p0 := (hb1.cell (p := ⟨w.heap.size, j, none⟩) olt).trans o0
      have q0 := (hb1.frozen (p := ⟨w.heap.size, j, none⟩) olt).trans of0
      have HNEW := Lib.hid hnew
      clear hnew
      go_wp2_with fail
      go_roundg (n - (j + 1))
      case measure => have := HK.out; omega
      case rel =>
        refine ⟨j + 1, fun i => if i = j then wr.heap.size else G i, by omega, rfl, by go_num, ?_, ?_, ?_, by (repeat' (first | (with_reducible exact Below.refl _ _) | (with_reducible assumption) | (with_reducible refine Below.alloc ?_ ?_ _) | (with_reducible refine Below.drew ?_) | (with_reducible refine below_drewN ?_ _) | (with_reducible refine Below.setCell ?_ ?_ _) | (with_reducible refine below_then ?_ ?_ (by with_reducible assumption)) | (with_reducible exact Nat.le_refl _) | go_size | (simp only [*]; done)))⟩
        · refine ((hown.out.then_ hb1).set1 hlt _).congr (fun i q hi hq => (ss_step (j := j) (f := fun i _ => .slice (some ⟨G i, 0, none⟩) (rl rs i).length (rl rs i).length) i q hi hq).trans ?_)
          by_cases e : i = j
          · subst e
            simp [HX.out, HM'.out]
          · simp [e]
        · intro i hi
          by_cases e : i = j
          · subst e
            simp only [if_true, HX.out, HM'.out]
            refine ⟨by omega, by simpa using hnl, ?_⟩
            exact OwnP.far (HNEW.out.mono hsz) (by intro x hx; cases hx; simp; omega) _
          · simp only [e, if_false]
            obtain ⟨k1, k2, k3⟩ := hin.out i (by omega)
            exact ⟨k1, by simp; omega, OwnP.far (k3.then_ hb1) (by intro x hx; cases hx; simp; omega) _⟩
        · intro i k hik hk
          by_cases e : k = j
          · have ei : ¬ i = j := by omega
            simp only [e, ei, if_true, if_false]
            exact (hin.out i (by omega)).2.1
          · have ei : ¬ i = j := by omega
            simp only [e, ei, if_false]
            exact hinc.out i k hik (by omega)
    · have ej : j = n := by omega
      subst ej
      go_wp2_with fail
      go_ret
      exact ⟨rfl, ⟨G, HN.out, hown.out.congr (fun i q hi _ => if_pos hi), fun i hi => ⟨(hin.out i hi).1, (hin.out i hi).2.2⟩, hinc.out⟩, hbel⟩
end Go.Proofs.Ytbkhimdebpllcaa
