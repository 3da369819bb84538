/- bestPath returns the cheapest way through the stops. Conditions: the stops read as a list; the function value tells the costs, in memory of its own; costs and sums of costs are small. -/
import Derived.Test.YtkmipgekmbngcaaMShH
import Derived.Shelf.Abstract
import Derived.Deep.RegionHeld3
import Derived.Deep.QuietTactic
import Derived.BigQuiet
namespace Go.Proofs.Ytkmipgekmbngcaa
open Go.RowKit

/-- The cells of one state of the table. -/
def enc (o : Option (Int × Nat)) (q : Nat) : Value := match q with
  | 0 => .int .i64 (o.getD (0, 0)).1
  | 1 => .int .i64 ((o.getD (0, 0)).2 : Int)
  | _ => .bool o.isSome
theorem step_cells {c : Nat → Nat → Option Int} {i m N : Nat} {v : Int} (e : ∀ k, stt c i (m + 1) k = if k = i then some (v, m) else stt c i m k) : ∀ k q, k < N → q < 3 →
    (if k = i ∧ q = 2 then .bool true else if k = i ∧ q = 1 then .int .i64 (m : Int) else if k = i ∧ q = 0 then .int .i64 v else enc (stt c i m k) q) = enc (stt c i (m + 1) k) q := by
  intro k q _ hq
  rw [e]
  by_cases h : k = i
  · subst h
    match q, hq with
    | 0, _ => simp [enc]
    | 1, _ => simp [enc]
    | 2, _ => simp [enc]
  · simp [h]
theorem state_info : (Try.prog.info? 98).map (fun i => (i.zero, i.size, i.bytes)) = some (some (.agg #[.int .i64 0, .int .i64 0, .bool false]), 3, 24) := by kernel_rfl

set_option maxRecDepth 100000 in
set_option maxHeartbeats 4000000 in
theorem bestPath_gen (K : Nat) (caps : Array Value) (S : Option Addr) (N n cap : Nat) (ss : List Int) (c : Nat → Nat → Option Int) (M : Int) (w : World) (eg : ∀ args w, (callFunc K args).run Try.prog w = .ok (.enter K args) w)
    (hn : ss.length = N) (hN : N = n + 1) (hn60 : n ≤ 100) (hr : Row w w.heap.size 1 S N (inc ss)) (hM : 0 ≤ M) (hM' : M ≤ 1000000000000000)
    (hrng : ∀ i v k, i ≤ n → Dp.tbl c i = some (v, k) → -M ≤ v ∧ v ≤ M) (hstep : ∀ k i s, k < i → i ≤ n → c k i = some s → -M ≤ s ∧ s ≤ M)
    (hcall : ∀ k i W, k < i → i ≤ n → Below w.heap.size w W → Calls Try.prog K (#[.int .i64 (ss.getD k default), .int .i64 (ss.getD i default)] ++ caps) W fun e W' => ∃ x : Int, e = .returned (.tuple #[.int .i64 x, .bool (c k i).isSome]) ∧ (∀ s, c k i = some s → x = s) ∧ Below W.heap.size W W') :
    Calls Try.prog 55 #[.slice S N cap, .func (.func K) #[] caps] w (PathOut w (pathV c ss n)) := by
  obtain ⟨i0, hi, hz0, hz1, hz2⟩ := info_parts state_info
  obtain ⟨j0, ji, jz0, jz1, jz2⟩ := info_parts int_info
  have hmk := make_n (P := Try.prog) 97 98 i0 _ Try.underlying97 hi hz0 N (by rw [hz2]; omega) (by omega)
  rw [hz1] at hmk
  have HN := Lib.hid hn
  have HNn := Lib.hid hN
  have HRNG := Lib.hid hrng
  have HSTEP := Lib.hid hstep
  have HCALL := Lib.hid hcall
  have HR := Lib.hid hr
  have hN1 : 1 ≤ N := by omega
  have hN2 : N ≤ 101 := by omega
  have hnN : (N : Int) - 1 = (n : Int) := by omega
  have HNN := Lib.hid hnN
  have hm : OwnP (w.alloc (.cells (madeCells #[.int .i64 0, .int .i64 0, .bool false] (N * 3)) 98)) w.heap.size 98 3 (some ⟨w.heap.size, 0, none⟩) N N (fun _ q => #[.int .i64 0, .int .i64 0, .bool false][q]!) := OwnP.made w 98 #[.int .i64 0, .int .i64 0, .bool false] N (by simp) (by unfold maxLen; omega)
  have m2 : (madeCells #[Value.int .i64 0, .int .i64 0, .bool false] (N * 3))[2]? = some (.bool false) := by
    have h1 := hm.cell (i := 0) (q := 2) (by omega) (by omega)
    rwa [Nat.zero_mul, Nat.zero_add, World.cell?_alloc_at _ _ _ _ rfl] at h1
  have hm2 := hm.set_ (i := 0) (q := 2) (by omega) (by omega) (.bool true)
  rw [Nat.zero_mul, Nat.zero_add, World.setCell_alloc_at _ _ _ _ _ rfl] at hm2
  have hm3 := hm2.congr (f' := fun k q => enc (stt c 1 0 k) q) (fun k q _ hq => by
    rw [stt_first]
    by_cases h0 : k = 0
    · subst h0
      match q, hq with
      | 0, _ => rfl
      | 1, _ => rfl
      | 2, _ => rfl
    · simp only [h0, false_and, if_false]
      match q, hq with
      | 0, _ => rfl
      | 1, _ => rfl
      | 2, _ => rfl)
  have HM := Lib.hid hm3
  have hb0 : Below w.heap.size w (w.alloc (.cells ((madeCells #[.int .i64 0, .int .i64 0, .bool false] (N * 3)).setIfInBounds 2 (.bool true)) 98)) := (Below.refl _ _).alloc (Nat.le_refl _) _
  clear hn hN hrng hstep hcall hr hnN hm hm2 hm3
  go_enter Try.func55, Try.ntmps55
  go_wp2_with fail
  go_loopg [8] (N - 1) (fun k iv wr => ∃ i : Nat, 1 ≤ i ∧ i ≤ N ∧ k = N - i ∧ iv = .int .i64 i ∧ Hid (OwnP wr w.heap.size 98 3 (some ⟨w.heap.size, 0, none⟩) N N (fun k q => enc (stt c i 0 k) q)) ∧ Below w.heap.size w wr)
  case atStart => exact ⟨1, Nat.le_refl _, hN1, rfl, by go_num, HM.out, hb0⟩
  case round =>
    obtain ⟨i, hi1, hiN, hk, rfl, hown, hbel⟩ := hrel
    have HK := Lib.hid hk; clear hk
    obtain ⟨wo, hwo⟩ : ∃ wo : World, wo = wr := ⟨_, rfl⟩
    subst hwo
    have hsz := hbel.size
    by_cases hlt : i < N
    · have hltN : (i : Int) < (N : Int) := by omega
      go_wp2_with fail
      go_loopg [28] i (fun kk mv wi => ∃ m : Nat, m ≤ i ∧ kk = i - m ∧ mv = .int .i64 m ∧ Hid (OwnP wi w.heap.size 98 3 (some ⟨w.heap.size, 0, none⟩) N N (fun k q => enc (stt c i m k) q)) ∧ Below w.heap.size w wi)
      case atStart => exact ⟨0, Nat.zero_le _, rfl, by go_num, hown.out, hbel⟩
      case round =>
        obtain ⟨m, hm, hk2, rfl, howni, hbi⟩ := hrel
        have HK2 := Lib.hid hk2; clear hk2
        obtain ⟨wi, hwi⟩ : ∃ wi : World, wi = wr := ⟨_, rfl⟩
        subst hwi
        have hszi := hbi.size
        have hgl := howni.out.lt
        by_cases hmi : m < i
        · have hmi' : (m : Int) < (i : Int) := by omega
          have hmN' : (m : Int) < (N : Int) := by omega
          obtain ⟨b, off, hS, hb, hc⟩ := HR.out.at1 (by omega)
          have c0 : wi.cell? ⟨b, off + m, none⟩ = _ := (hbi.cell (p := ⟨b, off + m, none⟩) hb).trans (hc m (by omega))
          have c1 : wi.cell? ⟨b, off + i, none⟩ = _ := (hbi.cell (p := ⟨b, off + i, none⟩) hb).trans (hc i (by omega))
          subst hS
          obtain ⟨x, hx⟩ : ∃ x, ss.getD m default = x := ⟨_, rfl⟩
          obtain ⟨y, hy⟩ : ∃ y, ss.getD i default = y := ⟨_, rfl⟩
          simp only [inc, hx, hy] at c0 c1
          have hcx := HCALL.out m i
          simp only [hx, hy] at hcx
          have hbw : b < wi.heap.size := by omega
          obtain ⟨U, hU⟩ : ∃ U, Dp.best (Dp.tbl c) (fun k => c k i) m = U := ⟨_, rfl⟩
          have p2 := howni.out.cell (i := m) (q := 2) (by omega) (by omega)
          rw [stt_lt hmi] at p2
          clear hx hy hc
          rcases hT : Dp.tbl c m with _ | q
          · rw [hT] at p2
            simp only [enc, Option.isSome_none] at p2
            have e : stt c i (m + 1) = stt c i m := stt_skip (by unfold Dp.upd; rw [hT])
            have E := Lib.hid e
            clear e hT hU hcx
            go_wp2_with fail
            go_roundg (i - (m + 1))
            case measure => have := HK2.out; omega
            case rel => exact ⟨m + 1, by omega, rfl, by go_num, (by show OwnP _ _ _ _ _ _ _ _; rw [E.out]; exact howni.out), hbi⟩
          · obtain ⟨q1, q2⟩ := q
            obtain ⟨r0, r1⟩ := HRNG.out m q1 q2 (by have := HNn.out; omega) hT
            have p0 := howni.out.cell (i := m) (q := 0) (by omega) (by omega)
            rw [stt_lt hmi] at p0
            have z0 := howni.out.cell (i := i) (q := 0) (by omega) (by omega)
            have z2 := howni.out.cell (i := i) (q := 2) (by omega) (by omega)
            rw [stt_at, hU] at z0 z2
            rw [hT] at p0 p2
            simp only [enc, Option.isSome_some, Option.getD_some, Nat.add_zero] at p0 p2 z0 z2
            have HT := Lib.hid hT
            have HU := Lib.hid hU
            clear hT hU
            rcases hC : c m i with _ | s
            · have e : stt c i (m + 1) = stt c i m := stt_skip (upd_c HT.out hC)
              have E := Lib.hid e
              simp only [hC, Option.isSome_none] at hcx
              have HCX := Lib.hid hcx
              clear e hC hcx
              go_wp2_with fail
              go_region_held3 (fun w' => w'.cell? ⟨b, off + m, none⟩ = some (.int .i64 x) ∧ w'.cell? ⟨b, off + i, none⟩ = some (.int .i64 y) ∧ Below wi.heap.size wi w')
                (first | exact ⟨c0, c1, Below.refl _ _⟩ | exact ⟨c0, c1, (Below.refl _ _).drew⟩ | exact ⟨d0, d1, hB5⟩)
                (first | (go_at_fn K; refine (HCX.out _ hmi (by have := HNn.out; omega) (by first | exact hbi | exact hbi.drew)).mono ?_; rintro e w5 ⟨x5, rfl, _, hb5⟩; have hB5 : Below wi.heap.size wi w5 := (by first | exact hb5 | exact below_then (Nat.le_refl _) (Below.refl _ _).drew hb5); have d0 := (hB5.cell (p := ⟨b, off + m, none⟩) hbw).trans c0; have d1 := (hB5.cell (p := ⟨b, off + i, none⟩) hbw).trans c1))
              go_wp2_with fail
              go_quiet (fail)
              go_wp2_with fail
              go_roundg (i - (m + 1))
              case measure => have := HK2.out; omega
              case rel => exact ⟨m + 1, by omega, rfl, by go_num, (by show OwnP _ _ _ _ _ _ _ _; rw [E.out]; exact (howni.out.then_ hB5).drewN _), below_drewN (below_then (Nat.le_refl _) hbi hB5) _⟩
            · obtain ⟨s0, s1⟩ := HSTEP.out m i s hmi (by have := HNn.out; omega) hC
              simp only [hC, Option.isSome_some] at hcx
              have hcx : ∀ W, m < i → i ≤ n → Below w.heap.size w W → Calls Try.prog K (#[.int .i64 x, .int .i64 y] ++ caps) W fun e W' => e = .returned (.tuple #[.int .i64 s, .bool true]) ∧ Below W.heap.size W W' := fun W h1 h2 h3 => (hcx W h1 h2 h3).mono fun e W' ⟨z, he, hz, hb⟩ => ⟨by rw [he, hz s rfl], hb⟩
              have HCX := Lib.hid hcx
              have w1 : IntKind.i64.wrap (q1 + s) = q1 + s := IntWalk.i64_in _ (by omega)
              rcases U with _ | ⟨b1, b2⟩
              · simp only [Option.getD_none, Option.isSome_none] at z0 z2
                have e : ∀ k, stt c i (m + 1) k = if k = i then some (q1 + s, m) else stt c i m k := stt_set (by rw [HU.out]; exact upd_first HT.out hC)
                have E := Lib.hid e
                clear e hC hcx
                go_wp2_with fail
                go_region_held3 (fun w' => w'.cell? ⟨b, off + m, none⟩ = some (.int .i64 x) ∧ w'.cell? ⟨b, off + i, none⟩ = some (.int .i64 y) ∧ Below wi.heap.size wi w')
                (first | exact ⟨c0, c1, Below.refl _ _⟩ | exact ⟨c0, c1, (Below.refl _ _).drew⟩ | exact ⟨d0, d1, hB5⟩)
                (first | (go_at_fn K; refine (HCX.out _ hmi (by have := HNn.out; omega) (by first | exact hbi | exact hbi.drew)).mono ?_; rintro e w5 ⟨rfl, hb5⟩; have hB5 : Below wi.heap.size wi w5 := (by first | exact hb5 | exact below_then (Nat.le_refl _) (Below.refl _ _).drew hb5); have d0 := (hB5.cell (p := ⟨b, off + m, none⟩) hbw).trans c0; have d1 := (hB5.cell (p := ⟨b, off + i, none⟩) hbw).trans c1; have y0 : w5.cell? ⟨w.heap.size, m * 3, none⟩ = _ := (hB5.cell (p := ⟨w.heap.size, m * 3, none⟩) hgl).trans p0; have y2 : w5.cell? ⟨w.heap.size, i * 3, none⟩ = _ := (hB5.cell (p := ⟨w.heap.size, i * 3, none⟩) hgl).trans z0; have y3 : w5.cell? ⟨w.heap.size, i * 3 + 2, none⟩ = _ := (hB5.cell (p := ⟨w.heap.size, i * 3 + 2, none⟩) hgl).trans z2))
                have h5 := howni.out.then_ hB5
                have f0 := h5.frozen (i * 3)
                have f1 := h5.frozen (i * 3 + 1)
                have f2 := h5.frozen (i * 3 + 2)
                have z5 : w5.cell? ⟨w.heap.size, i * 3 + 1, none⟩ = _ := h5.cell (i := i) (q := 1) (by omega) (by omega)
                have H5 := Lib.hid h5
                clear h5
                go_wp2_with fail
                go_quiet (fail)
                go_wp2_with fail
                go_roundg (i - (m + 1))
                case measure => have := HK2.out; omega
                case rel =>
                  refine ⟨m + 1, by omega, rfl, by go_num, ?_, ?_⟩
                  · show OwnP _ _ _ _ _ _ _ _
                    exact ((((H5.out.drewN _).set0 (i := i) (by omega) (by omega) _).set_ (i := i) (q := 1) (by omega) (by omega) _).set_ (i := i) (q := 2) (by omega) (by omega) _).congr (step_cells E.out)
                  · exact (((below_drewN (below_then (Nat.le_refl _) hbi hB5) _).setCell (by simp) _).setCell (by simp) _).setCell (by simp) _
              · simp only [Option.getD_some, Option.isSome_some] at z0 z2
                by_cases hless : q1 + s < b1
                · have e : ∀ k, stt c i (m + 1) k = if k = i then some (q1 + s, m) else stt c i m k := stt_set (by rw [HU.out]; exact upd_less HT.out hC hless)
                  have E := Lib.hid e
                  have hd : decide (q1 + s < b1) = true := decide_eq_true hless
                  clear e hC hcx
                  go_wp2_with fail
                  go_region_held3 (fun w' => w'.cell? ⟨b, off + m, none⟩ = some (.int .i64 x) ∧ w'.cell? ⟨b, off + i, none⟩ = some (.int .i64 y) ∧ Below wi.heap.size wi w')
                  (first | exact ⟨c0, c1, Below.refl _ _⟩ | exact ⟨c0, c1, (Below.refl _ _).drew⟩ | exact ⟨d0, d1, hB5⟩)
                  (first | (go_at_fn K; refine (HCX.out _ hmi (by have := HNn.out; omega) (by first | exact hbi | exact hbi.drew)).mono ?_; rintro e w5 ⟨rfl, hb5⟩; have hB5 : Below wi.heap.size wi w5 := (by first | exact hb5 | exact below_then (Nat.le_refl _) (Below.refl _ _).drew hb5); have d0 := (hB5.cell (p := ⟨b, off + m, none⟩) hbw).trans c0; have d1 := (hB5.cell (p := ⟨b, off + i, none⟩) hbw).trans c1; have y0 : w5.cell? ⟨w.heap.size, m * 3, none⟩ = _ := (hB5.cell (p := ⟨w.heap.size, m * 3, none⟩) hgl).trans p0; have y2 : w5.cell? ⟨w.heap.size, i * 3, none⟩ = _ := (hB5.cell (p := ⟨w.heap.size, i * 3, none⟩) hgl).trans z0; have y3 : w5.cell? ⟨w.heap.size, i * 3 + 2, none⟩ = _ := (hB5.cell (p := ⟨w.heap.size, i * 3 + 2, none⟩) hgl).trans z2))
                  have h5 := howni.out.then_ hB5
                  have f0 := h5.frozen (i * 3)
                  have f1 := h5.frozen (i * 3 + 1)
                  have f2 := h5.frozen (i * 3 + 2)
                  have z5 : w5.cell? ⟨w.heap.size, i * 3 + 1, none⟩ = _ := h5.cell (i := i) (q := 1) (by omega) (by omega)
                  have H5 := Lib.hid h5
                  clear h5
                  go_wp2_with fail
                  go_quiet (fail)
                  go_wp2_with fail
                  go_roundg (i - (m + 1))
                  case measure => have := HK2.out; omega
                  case rel =>
                    refine ⟨m + 1, by omega, rfl, by go_num, ?_, ?_⟩
                    · show OwnP _ _ _ _ _ _ _ _
                      exact ((((H5.out.drewN _).set0 (i := i) (by omega) (by omega) _).set_ (i := i) (q := 1) (by omega) (by omega) _).set_ (i := i) (q := 2) (by omega) (by omega) _).congr (step_cells E.out)
                    · exact (((below_drewN (below_then (Nat.le_refl _) hbi hB5) _).setCell (by simp) _).setCell (by simp) _).setCell (by simp) _
                · have e : stt c i (m + 1) = stt c i m := stt_skip (by rw [HU.out]; exact upd_keep HT.out hC hless)
                  have E := Lib.hid e
                  have hd : decide (q1 + s < b1) = false := decide_eq_false hless
                  clear e hC hcx hless
                  go_wp2_with fail
                  go_region_held3 (fun w' => w'.cell? ⟨b, off + m, none⟩ = some (.int .i64 x) ∧ w'.cell? ⟨b, off + i, none⟩ = some (.int .i64 y) ∧ Below wi.heap.size wi w')
                  (first | exact ⟨c0, c1, Below.refl _ _⟩ | exact ⟨c0, c1, (Below.refl _ _).drew⟩ | exact ⟨d0, d1, hB5⟩)
                  (first | (go_at_fn K; refine (HCX.out _ hmi (by have := HNn.out; omega) (by first | exact hbi | exact hbi.drew)).mono ?_; rintro e w5 ⟨rfl, hb5⟩; have hB5 : Below wi.heap.size wi w5 := (by first | exact hb5 | exact below_then (Nat.le_refl _) (Below.refl _ _).drew hb5); have d0 := (hB5.cell (p := ⟨b, off + m, none⟩) hbw).trans c0; have d1 := (hB5.cell (p := ⟨b, off + i, none⟩) hbw).trans c1; have y0 : w5.cell? ⟨w.heap.size, m * 3, none⟩ = _ := (hB5.cell (p := ⟨w.heap.size, m * 3, none⟩) hgl).trans p0; have y2 : w5.cell? ⟨w.heap.size, i * 3, none⟩ = _ := (hB5.cell (p := ⟨w.heap.size, i * 3, none⟩) hgl).trans z0; have y3 : w5.cell? ⟨w.heap.size, i * 3 + 2, none⟩ = _ := (hB5.cell (p := ⟨w.heap.size, i * 3 + 2, none⟩) hgl).trans z2))
                  go_wp2_with fail
                  go_quiet (fail)
                  go_wp2_with fail
                  go_roundg (i - (m + 1))
                  case measure => have := HK2.out; omega
                  case rel => exact ⟨m + 1, by omega, rfl, by go_num, (by show OwnP _ _ _ _ _ _ _ _; rw [E.out]; exact (howni.out.then_ hB5).drewN _), below_drewN (below_then (Nat.le_refl _) hbi hB5) _⟩
        · have emi : m = i := by omega
          subst emi
          have E := Lib.hid (stt_next (c := c) (i := m) (by omega))
          go_wp2_with fail
          go_roundg (N - (m + 1))
          case measure => have := HK.out; omega
          case rel => exact ⟨m + 1, by omega, by omega, rfl, by go_num, (by show OwnP _ _ _ _ _ _ _ _; rw [← E.out]; exact howni.out), hbi⟩
    · have eiN : i = N := by omega
      subst eiN
      have hgl := hown.out.lt
      have hn' : n < i := by have := HNn.out; omega
      have z0 := hown.out.cell (i := n) (q := 0) hn' (by omega)
      have z2 := hown.out.cell (i := n) (q := 2) hn' (by omega)
      rw [stt_lt hn'] at z0 z2
      simp only [enc, Nat.add_zero] at z0 z2
      rcases hT : Dp.tbl c n with _ | p
      · rw [hT] at z0 z2
        simp only [Option.getD_none, Option.isSome_none] at z0 z2
        have hni : (i : Int) - 1 = (n : Int) := HNN.out
        have E := Lib.hid (pathV_none (ss := ss) hT)
        clear hT
        go_wp2_with fail
        (first | go_returns | (refine bodyPost_ret (by simp [results, Try.results55, go_sem, *]; try rfl) rfl ?_))
        exact ⟨none, 0, by rw [E.out]; rfl, by rw [E.out]; exact ⟨rfl, .inl ⟨rfl, rfl⟩⟩, hbel⟩
      · obtain ⟨v, f⟩ := p
        rw [hT] at z0 z2
        simp only [Option.getD_some, Option.isSome_some] at z0 z2
        have hni : (i : Int) - 1 = (n : Int) := HNN.out
        have HE := Lib.hid (pathV_some (ss := ss) hT)
        obtain ⟨X, hX⟩ : ∃ X, (Dp.path c n).map (fun i => ss.getD i default) = X := ⟨_, rfl⟩
        have HX := Lib.hid hX
        have HT := Lib.hid hT
        have hE := Lib.hid (World.ownsRow_nil wo wo.heap.size 3 1)
        have hb1 : w.heap.size + 1 ≤ wo.heap.size := hgl
        clear hT hX
        go_wp2_with fail
        go_loopg [13, 14] n (fun k ov pv wi => ∃ (p q d : Nat) (A : Option Addr) (L : List Int), k = p ∧ p ≤ n ∧ pv = .int .i64 p ∧ ov = .slice A q d ∧ q + p ≤ n ∧ Hid (∃ u f, Dp.tbl c p = some (u, f)) ∧ Hid ((Dp.path c p).map (fun i => ss.getD i default) ++ L.reverse = X) ∧ Hid (OwnI wi wo.heap.size A q d L) ∧ Below wo.heap.size wo wi)
        case atStart => exact ⟨n, 0, 0, none, [], rfl, Nat.le_refl _, rfl, rfl, by omega, ⟨v, f, HT.out⟩, (by show _ = _; rw [List.reverse_nil, List.append_nil]; exact HX.out), hE.out, Below.refl _ _⟩
        case round =>
          obtain ⟨p, q, d, A, L, hk, hpn, rfl, rfl, hqp, htb, hpath, hownl, hbl⟩ := hrel
          have HK := Lib.hid hk; clear hk
          have hszl := hbl.size
          have hBl := below_then (Nat.le_refl _) hbel hbl
          have hst := hown.out.then_ hbl
          by_cases hp : 0 < p
          · have hp' : (0 : Int) < (p : Int) := by omega
            have hpi : (p : Int) < (i : Int) := by omega
            obtain ⟨u, g, hug⟩ := htb.out
            obtain ⟨hgp, u2, g2, _, hug2, _⟩ := Dp.tbl_some hp hug
            have hpp := hpath.out
            rw [Dp.path_pos hp hug, List.map_append, List.append_assoc] at hpp
            obtain ⟨b, off, hS, hb, hc⟩ := HR.out.at1 (by omega)
            have c0 : wr.cell? ⟨b, off + p, none⟩ = _ := (hBl.cell (p := ⟨b, off + p, none⟩) hb).trans (hc p (by omega))
            subst hS
            obtain ⟨x, hx⟩ : ∃ x, ss.getD p default = x := ⟨_, rfl⟩
            simp only [List.map_cons, List.map_nil, hx] at hpp
            simp only [inc, hx] at c0
            have k1 := hst.cell (i := p) (q := 1) (by omega) (by omega)
            rw [stt_lt (by omega), hug] at k1
            simp only [enc, Option.getD_some] at k1
            have hO := hownl.out.alloc (.cells #[.int .i64 x] 3)
            have HO := Lib.hid hO
            have HB := Lib.hid (Blk.new wr 3 #[.int .i64 x])
            have HS := Lib.hid (show wo.heap.size ≤ (wr.alloc (.cells #[.int .i64 x] 3)).heap.size by simp; omega)
            have hgl2 := hst.lt
            have K4 : ∀ w4, (wr.alloc (.cells #[.int .i64 x] 3)).grownBy w4 (Value.ownBlock (.slice A q d)) → w4.cell? ⟨w.heap.size, p * 3 + 1, none⟩ = some (.int .i64 (g : Int)) ∧ Below w.heap.size w w4 ∧ Below wo.heap.size wo w4 := fun w4 hg => by
              have hblk := hownl.out.block
              refine ⟨hg.cell ((World.cell?_alloc_lt wr _ ⟨w.heap.size, p * 3 + 1, none⟩ hgl2).trans k1) (fun e => by have := (hblk _ e.symm).1; simp only at this; omega), ?_, ?_⟩
              · exact (hBl.alloc (by omega) _).grown hg (by simp; omega) (fun k hk => by have := (hblk k hk).1; omega)
              · exact (hbl.alloc (by omega) _).grown hg (by simp; omega) (fun k hk => (hblk k hk).1)
            have HK4 := Lib.hid K4
            have HP := Lib.hid hpp
            have HG := Lib.hid hug2
            clear hx hc k1 K4 hpp hug hug2 hst htb
            go_wp2_with (at_builtin; (refine wpList_append_one _ rfl _ _ 24 rfl wo.heap.size 3 j0 _ 1 8 Try.underlying24 ji jz0 jz1 jz2 rfl (by omega) A q d (inl L) rfl HO.out wr.heap.size (inl [x]) rfl rfl HB.out (inl_one _) (by omega) (by omega) HS.out ?_); intro g' d' w4 hown4 hgr4; have HO4 := Lib.hid hown4; obtain ⟨k4, hb4, hbp4⟩ := HK4.out w4 hgr4; clear hown4 hgr4)
            go_roundg g
            case measure => have := HK.out; omega
            case rel =>
              refine ⟨g, q + 1, d', some ⟨g', 0, none⟩, L ++ [x], rfl, by omega, rfl, by go_num, by omega, ⟨u2, g2, HG.out⟩, ?_, ?_, hbp4⟩
              · show _ = _
                rw [List.reverse_append]; exact HP.out
              · show World.ownsRow _ _ _ _ _ _ _
                rw [inl_snoc]; exact HO4.out
          · obtain rfl : p = 0 := by omega
            have hfin : L.reverse = X := by have := hpath.out; rwa [Dp.path_zero, List.map_nil, List.nil_append] at this
            have hlen := hownl.out.len
            have z4 := hst.cell (i := n) (q := 0) hn' (by omega)
            rw [stt_lt hn', HT.out] at z4
            simp only [enc, Option.getD_some, Nat.add_zero] at z4
            have HF := Lib.hid hfin
            have HLEN := Lib.hid hlen
            have hni' : (n : Int) < (i : Int) := by omega
            clear hfin hst htb hlen
            go_wp2_with fail
            ((with_reducible refine (reverse_any _ _ _ wo.heap.size L _ (by omega) hownl.out).mono ?_); rintro e w6 ⟨rfl, hown6, hg6⟩)
            have z6 : w6.cell? ⟨w.heap.size, n * 3, none⟩ = some (.int .i64 v) := hg6.cell z4 (fun e => by have := (hownl.out.block _ e.symm).1; simp only at this; omega)
            have hb6 : Below w.heap.size w w6 := hBl.grown hg6 (by omega) (fun k hk => by have := (hownl.out.block k hk).1; omega)
            have HO6 := Lib.hid hown6
            clear hown6 z4
            go_wp2_with fail
            go_quiet (fail)
            go_wp2_with fail
            (first | go_returns | (refine bodyPost_ret (by simp [results, Try.results55, go_sem, *]; try rfl) rfl ?_))
            have hq : X.length = q := by rw [← HF.out, List.length_reverse, HLEN.out]
            refine ⟨A, d, by rw [HE.out, HX.out]; show _ = Ending.returned (.tuple #[.slice A X.length d, .int .i64 v, .bool true]); rw [hq]; rfl, ?_, by (repeat' (first | (with_reducible exact Below.refl _ _) | (with_reducible assumption) | (with_reducible refine Below.alloc ?_ ?_ _) | (with_reducible refine Below.drew ?_) | (with_reducible refine below_drewN ?_ _) | (with_reducible refine Below.setCell ?_ ?_ _) | (with_reducible refine below_then ?_ ?_ (by with_reducible assumption)) | (with_reducible exact Nat.le_refl _) | go_size | (simp only [*]; done)))⟩
            rw [HE.out, HX.out]
            show OwnI _ w.heap.size A X.length d X
            rw [hq, ← HF.out]
            exact OwnI.mono (HO6.out.drewN _) hsz
theorem bestPath_any (K : Nat) (caps : Array Value) (S : Option Addr) (N n cap : Nat) (ss : List Int) (c : Nat → Nat → Option Int) (M : Int) (w : World) (eg : ∀ args w, (callFunc K args).run Try.prog w = .ok (.enter K args) w)
    (hn : ss.length = N) (hN : N = n + 1) (hn60 : n ≤ 100) (hr : Row w w.heap.size 1 S N (inc ss)) (hM : 0 ≤ M) (hM' : M ≤ 1000000000000000)
    (hrng : ∀ i v k, i ≤ n → Dp.tbl c i = some (v, k) → -M ≤ v ∧ v ≤ M) (hstep : ∀ k i s, k < i → i ≤ n → c k i = some s → -M ≤ s ∧ s ≤ M)
    (hcall : ∀ k i W, k < i → i ≤ n → Below w.heap.size w W → Calls Try.prog K (#[.int .i64 (ss.getD k default), .int .i64 (ss.getD i default)] ++ caps) W fun e W' => e = .returned (.tuple #[.int .i64 ((c k i).getD 0), .bool (c k i).isSome]) ∧ Below W.heap.size W W') :
    Calls Try.prog 55 #[.slice S N cap, .func (.func K) #[] caps] w (PathOut w (pathV c ss n)) :=
  bestPath_gen K caps S N n cap ss c M w eg hn hN hn60 hr hM hM' hrng hstep fun k i W h1 h2 h3 => (hcall k i W h1 h2 h3).mono fun e W' ⟨he, hb⟩ => ⟨_, he, fun s hs => by rw [hs]; rfl, hb⟩
end Go.Proofs.Ytkmipgekmbngcaa
/- BestBreaks of the program returns the cheapest way through the stops. Conditions: the slice reads as the list. -/
namespace Go.Proofs.Ytkmipgekmbngcaa
open Go.RowKit Go.Shelf

theorem optV_cost {xs : List It} {d tol f t : Int} {a u : Nat} (hf : f = (a : Int) - 1) (ht : t = (u : Int)) (hl : lnOk xs f t = true) : optV (lc xs d tol f t) = .tuple #[.int .i64 (costV xs a u d tol), .bool (costOk xs a u d tol)] := by
  rw [lc_at hf ht hl, optV]
  rcases hq : costOk xs a u d tol with _ | _
  · rw [show costV xs a u d tol = 0 by rw [costV, hq]; rfl]; rfl
  · rfl

set_option maxRecDepth 100000 in
set_option maxHeartbeats 1000000 in
theorem bestFn_i (g1 g2 g3 : Nat) (A : Option Addr) (n cap : Nat) (xs : List It) (d tol f t : Int) (w : World) (h1 : Blk w g1 23 #[.slice A n cap]) (h2 : Blk w g2 3 #[.int .i64 d]) (h3 : Blk w g3 3 #[.int .i64 tol])
    (hok : itemsOk xs = true) (hn : xs.length = n) (hcap : n ≤ cap ∧ cap ≤ maxLen) (hd : 1 ≤ d ∧ d ≤ 10000) (hr : Row w w.heap.size 6 A n (itc xs)) :
    Calls Try.prog 59 #[.int .i64 f, .int .i64 t, .pointer (some ⟨g1, 0, none⟩), .pointer (some ⟨g2, 0, none⟩), .pointer (some ⟨g3, 0, none⟩)] w fun e w' => e = .returned (optV (lc xs d tol f t)) ∧ Below w.heap.size w w' := by
  have h60 := (itemsOk_len hok hn).2
  have H1 := Lib.hid h1
  have H2 := Lib.hid h2
  have H3 := Lib.hid h3
  have HOK := Lib.hid hok
  have HN := Lib.hid hn
  obtain ⟨d0, d1⟩ := hd
  have plt := h1.lt
  have pc0 := h1.cell 0; have pf0 := h1.frozen 0
  simp only [List.getElem?_toArray, List.getElem?_cons_zero] at pc0
  rcases hl : lnOk xs f t with _ | _
  · have HE := Lib.hid (lc_line (d := d) (tol := tol) hl)
    have HL := Lib.hid hl
    clear hl h1 h2 h3 hok hn
    go_enter Try.func59, Try.ntmps59
    go_wp2_with fail
    ((with_reducible refine (isLine_i _ _ _ _ _ xs _ HN.out h60 hcap ?_).mono ?_); (exact hr); rintro e w1 ⟨rfl, hb1⟩)
    rw [HL.out]
    go_wp2_with fail
    (first | go_returns | (refine bodyPost_ret (by simp [results, Try.results59, go_sem, *]; try rfl) rfl ?_))
    exact ⟨by rw [HE.out]; rfl, hb1⟩
  obtain ⟨a, u, ef, et, hau, hun, _⟩ := ln_iff hn hl
  have HE := Lib.hid (optV_cost (d := d) (tol := tol) ef et hl)
  have HL := Lib.hid hl
  have HFA := Lib.hid (show f + 1 = (a : Int) by omega)
  clear hl h1 h2 h3 hok hn ef
  subst et
  go_enter Try.func59, Try.ntmps59
  go_wp2_with fail
  ((with_reducible refine (isLine_i _ _ _ _ _ xs _ HN.out h60 hcap ?_).mono ?_); (exact hr); rintro e w1 ⟨rfl, hb1⟩)
  rw [HL.out]
  have k1 := H1.out.then_ hb1
  have k2 := H2.out.then_ hb1
  have k3 := H3.out.then_ hb1
  clear plt pc0 pf0
  have plt := k1.lt
  have pc0 := k1.cell 0; have pf0 := k1.frozen 0
  simp only [List.getElem?_toArray, List.getElem?_cons_zero] at pc0
  have qlt := k2.lt
  have qc0 := k2.cell 0; have qf0 := k2.frozen 0
  simp only [List.getElem?_toArray, List.getElem?_cons_zero] at qc0
  have rlt := k3.lt
  have rc0 := k3.cell 0; have rf0 := k3.frozen 0
  simp only [List.getElem?_toArray, List.getElem?_cons_zero] at rc0
  have hr1 := hr.then_ hb1
  go_wp2_with fail
  ((with_reducible refine (lineCost_i _ _ _ a u _ _ _ xs _ HOK.out HN.out hcap HFA.out hau hun ?_ d0 d1).mono ?_); (exact hr1); rintro e w3 ⟨rfl, hb3⟩)
  go_wp2_with fail
  (first | go_returns | (refine bodyPost_ret (by simp [results, Try.results59, go_sem, *]; try rfl) rfl ?_))
  exact ⟨by rw [HE.out]; rfl, below_then (Nat.le_refl _) hb1 hb3⟩

/-- The cost of a step from stop to stop. -/
def stC (xs : List It) (d tol : Int) (k i : Nat) : Option Int := lc xs d tol ((stps xs).getD k default) ((stps xs).getD i default)
def bbV (xs : List It) (d tol : Int) : List Int × Int × Bool := if itemsOk xs && widthOk d && inR tol 0 10000 then pathV (stC xs d tol) (stps xs) (brksV xs).length else ([], 0, false)
theorem stps_len (xs : List It) : (stps xs).length = (brksV xs).length + 1 := by simp [stps]

set_option maxRecDepth 100000 in
set_option maxHeartbeats 4000000 in
theorem bestBreaks_i (A : Option Addr) (n cap : Nat) (d tol : Int) (xs : List It) (w : World) (hn : xs.length = n) (hm : n ≤ maxLen) (hcap : n ≤ cap ∧ cap ≤ maxLen) (hr : Row w w.heap.size 6 A n (itc xs)) :
    Calls Try.prog 20 #[.slice A n cap, .int .i64 d, .int .i64 tol] w (PathOut w (bbV xs d tol)) := by
  have HN := Lib.hid hn
  have HR := Lib.hid hr
  have eg : ∀ args w, (callFunc 59 args).run Try.prog w = .ok (.enter 59 args) w := enters_of Try.func59 (by kernel_rfl) rfl
  have EG := Lib.hid eg
  obtain ⟨W0, hW0⟩ : ∃ W0, ((w.alloc (.cells #[.slice A n cap] 23)).alloc (.cells #[.int .i64 d] 3)).alloc (.cells #[.int .i64 tol] 3) = W0 := ⟨_, rfl⟩
  have g1 : Blk W0 w.heap.size 23 #[.slice A n cap] := by rw [← hW0]; exact ((Blk.new w _ _).alloc _).alloc _
  have g2 : Blk W0 (w.heap.size + 1) 3 #[.int .i64 d] := by rw [← hW0]; exact (Blk.new_at _ _ _ _ (by simp)).alloc _
  have g3 : Blk W0 (w.heap.size + 1 + 1) 3 #[.int .i64 tol] := by rw [← hW0]; exact Blk.new_at _ _ _ _ (by simp)
  have hB0 : Below w.heap.size w W0 := by rw [← hW0]; exact (((Below.refl _ _).alloc (Nat.le_refl _) _).alloc (by simp) _).alloc (by simp; omega) _
  have hr0 : Row W0 W0.heap.size 6 A n (itc xs) := (hr.below hB0).more hB0.size
  have G1 := Lib.hid g1
  have G2 := Lib.hid g2
  have G3 := Lib.hid g3
  have HR0 := Lib.hid hr0
  clear eg hr hn hr0
  rcases hv : (itemsOk xs && widthOk d && inR tol 0 10000) with _ | _
  · have HE := Lib.hid (show bbV xs d tol = ([], 0, false) by rw [bbV, hv]; rfl)
    have HV := Lib.hid hv
    have plt := g1.lt
    have pc0 := g1.cell 0; have pf0 := g1.frozen 0
    simp only [List.getElem?_toArray, List.getElem?_cons_zero] at pc0
    have qlt := g2.lt
    have qc0 := g2.cell 0; have qf0 := g2.frozen 0
    simp only [List.getElem?_toArray, List.getElem?_cons_zero] at qc0
    have rlt := g3.lt
    have rc0 := g3.cell 0; have rf0 := g3.frozen 0
    simp only [List.getElem?_toArray, List.getElem?_cons_zero] at rc0
    clear hv g1 g2 g3
    go_enter Try.func20, Try.ntmps20
    go_wp2_with fail
    ((with_reducible refine (validBreaking_i _ _ _ _ _ xs _ HN.out hm ?_).mono ?_); (exact HR0.out); rintro e w1 ⟨rfl, hb1⟩)
    rw [HV.out]
    go_wp2_with fail
    (first | go_returns | (refine bodyPost_ret (by simp [results, Try.results20, go_sem, *]; try rfl) rfl ?_))
    rw [HE.out]
    exact ⟨none, 0, rfl, ownI_none _ _, below_then (Nat.le_refl _) hB0 hb1⟩
  have HE := Lib.hid (show bbV xs d tol = pathV (stC xs d tol) (stps xs) (brksV xs).length by rw [bbV, hv]; rfl)
  have HV := Lib.hid hv
  rw [Bool.and_eq_true, Bool.and_eq_true] at hv
  obtain ⟨⟨hv1, hv2⟩, _⟩ := hv
  have hd := inR_iff.1 hv2
  have h60 := (itemsOk_len hv1 HN.out).2
  have HV1 := Lib.hid hv1
  obtain ⟨nb, hnb⟩ : ∃ nb, (brksV xs).length = nb := ⟨_, rfl⟩
  have hnb60 : nb ≤ 60 := by have := brksV_len xs; have := HN.out; omega
  have hsl : (stps xs).length = nb + 1 := by rw [stps_len, hnb]
  rw [hnb] at HE
  have HSL := Lib.hid hsl
  have plt := g1.lt
  have pc0 := g1.cell 0; have pf0 := g1.frozen 0
  simp only [List.getElem?_toArray, List.getElem?_cons_zero] at pc0
  have qlt := g2.lt
  have qc0 := g2.cell 0; have qf0 := g2.frozen 0
  simp only [List.getElem?_toArray, List.getElem?_cons_zero] at qc0
  have rlt := g3.lt
  have rc0 := g3.cell 0; have rf0 := g3.frozen 0
  simp only [List.getElem?_toArray, List.getElem?_cons_zero] at rc0
  clear hv1 hv2 g1 g2 g3 hnb hsl
  go_enter Try.func20, Try.ntmps20
  go_wp2_with fail
  ((with_reducible refine (validBreaking_i _ _ _ _ _ xs _ HN.out hm ?_).mono ?_); (exact HR0.out); rintro e w1 ⟨rfl, hb1⟩)
  rw [HV.out]
  have k1 := G1.out.then_ hb1
  have hB1 := below_then (Nat.le_refl _) hB0 hb1
  clear plt pc0 pf0 qlt qc0 qf0 rlt rc0 rf0
  have plt := k1.lt
  have pc0 := k1.cell 0; have pf0 := k1.frozen 0
  simp only [List.getElem?_toArray, List.getElem?_cons_zero] at pc0
  go_wp2_with fail
  ((with_reducible refine (breakStops_i _ _ _ xs _ HN.out h60 ?_).mono ?_); (exact HR0.out.then_ hb1); rintro e w2 ⟨D, dd, rfl, hst, hb2⟩)
  have hB2 := below_then (Nat.le_refl _) hB1 hb2
  rw [HSL.out] at hst ⊢
  have HST := Lib.hid hst
  clear hst
  go_wp2_with fail
  ((with_reducible refine (bestPath_any 59 #[.pointer (some ⟨w.heap.size, 0, none⟩), .pointer (some ⟨w.heap.size + 1, 0, none⟩), .pointer (some ⟨w.heap.size + 1 + 1, 0, none⟩)] D (nb + 1) nb dd (stps xs) (stC xs d tol) 20000000000 _ EG.out HSL.out rfl (by omega) HST.out.row (by omega) (by omega) ?_ ?_ ?_).mono ?_); rotate_left 3; rintro e w3 ⟨A3, d3, rfl, hown3, hb3⟩)
  · go_wp2_with fail
    (first | go_returns | (refine bodyPost_ret (by simp [results, Try.results20, go_sem, *]; try rfl) rfl ?_))
    rw [HE.out]
    exact ⟨A3, d3, rfl, hown3.mono hB2.size, below_then (Nat.le_refl _) hB2 hb3⟩
  · intro i v k hi ht
    have h1 := Dp.tbl_bound (M := 200000000) (by omega) (c := stC xs d tol) (fun k i s _ h => by
      have := lc_some HV1.out HN.out hd.1 hd.2 h
      omega) i v k ht
    have h2 : (i : Int) * 200000000 ≤ 60 * 200000000 := Int.mul_le_mul_of_nonneg_right (by omega) (by omega)
    omega
  · intro k i s _ _ h
    have := lc_some HV1.out HN.out hd.1 hd.2 h
    omega
  · intro k i W _ _ hW
    exact bestFn_i _ _ _ _ _ _ xs d tol _ _ W ((k1.then_ hb2).then_ hW) (((G2.out.then_ hb1).then_ hb2).then_ hW) (((G3.out.then_ hb1).then_ hb2).then_ hW) HV1.out HN.out hcap hd (((HR0.out.then_ hb1).then_ hb2).then_ hW)
end Go.Proofs.Ytkmipgekmbngcaa
/- The nodes of a paragraph: -1 and all items; the stops among them. No program. No condition. -/
namespace Go.Proofs.Ytkmipgekmbngcaa

def ndP (xs : List It) (k : Nat) : Bool := (k == 0) || brk xs (k - 1)
theorem ndC_no {xs : List It} {d tol : Int} (k i : Nat) (h : ndP xs k = false) : ndC xs d tol k i = none := by
  rcases k with _ | k
  · cases h
  · have hb : brk xs k = false := by simpa [ndP] using h
    rw [ndC, show ((k + 1 : Nat) : Int) - 1 = (k : Int) by omega]
    exact lc_line (ln_f hb)
theorem ndP_zero (xs : List It) : ndP xs 0 = true := rfl
theorem sts_eq (xs : List It) (n : Nat) : Dp.sts (ndP xs) (n + 1) = 0 :: ((List.range n).filter (brk xs)).map Nat.succ := by
  rw [Dp.sts, List.range_succ_eq_map, List.filter_cons_of_pos (ndP_zero xs), List.filter_map]
  congr 2
theorem stps_eq {xs : List It} {n : Nat} (hok : itemsOk xs = true) (hn : xs.length = n) : stps xs = (Dp.sts (ndP xs) (n + 1)).map fun (k : Nat) => (k : Int) - 1 := by
  rw [sts_eq, stps, brksV_yes hok hn, brksP]
  simp only [List.map_cons, List.map_map]
  show (-1 : Int) :: _ = (-1 : Int) :: _
  congr 1
  apply List.map_congr_left
  intro i _
  show (i : Int) = ((i + 1 : Nat) : Int) - 1
  omega
/-- Tables of equal costs are equal. -/
theorem tbl_congr {c c' : Nat → Nat → Option Int} {n : Nat} (h : ∀ k i, k < i → i ≤ n → c k i = c' k i) : ∀ i, i ≤ n → Dp.tbl c i = Dp.tbl c' i := by
  intro i
  induction i using Nat.strongRecOn with
  | _ i ih =>
    intro hi
    rcases Nat.eq_zero_or_pos i with rfl | hp
    · rw [Dp.tbl_zero, Dp.tbl_zero]
    · rw [Dp.tbl_pos _ _ hp, Dp.tbl_pos _ _ hp]
      exact Dp.best_congr fun k hk => ⟨ih k hk (by omega), h k i hk hi⟩
theorem path_congr {c c' : Nat → Nat → Option Int} {n : Nat} (h : ∀ k i, k < i → i ≤ n → c k i = c' k i) : ∀ i, i ≤ n → Dp.tbl c i ≠ none → Dp.path c i = Dp.path c' i := by
  intro i
  induction i using Nat.strongRecOn with
  | _ i ih =>
    intro hi ht
    rcases Nat.eq_zero_or_pos i with rfl | hp
    · rw [Dp.path_zero, Dp.path_zero]
    · rcases hs : Dp.tbl c i with _ | ⟨v, k⟩
      · exact absurd hs ht
      · have hs' := hs
        rw [tbl_congr h i hi] at hs'
        obtain ⟨hk, u, k', s, h1, _, _⟩ := Dp.tbl_some hp hs
        rw [Dp.path_pos hp hs, Dp.path_pos hp hs', ih k hk (by omega) (by rw [h1]; intro e; cases e)]
theorem path_le {c : Nat → Nat → Option Int} : ∀ i, Dp.tbl c i ≠ none → ∀ k ∈ Dp.path c i, k ≤ i := by
  intro i
  induction i using Nat.strongRecOn with
  | _ i ih =>
    intro ht k hk
    rcases Nat.eq_zero_or_pos i with rfl | hp
    · rw [Dp.path_zero] at hk; cases hk
    · rcases hs : Dp.tbl c i with _ | ⟨v, j⟩
      · exact absurd hs ht
      · obtain ⟨hj, u, k', s, h1, _, _⟩ := Dp.tbl_some hp hs
        rw [Dp.path_pos hp hs, List.mem_append, List.mem_singleton] at hk
        rcases hk with hk | hk
        · have := ih j hj (by rw [h1]; intro e; cases e) k hk
          omega
        · omega
theorem last_brk {xs : List It} {n : Nat} (hok : itemsOk xs = true) (hn : xs.length = n) : ndP xs n = true := by
  have h1 := itemsOk_last hok hn
  have h2 := (itemsOk_len hok hn).1
  simp only [forced, Bool.and_eq_true, beq_iff_eq] at h1
  have h3 : brk xs (n - 1) = true := by rw [brk, kd, if_pos h1.1, h1.2]; rfl
  rw [ndP, h3, Bool.or_true]
/-- BestBreaks in terms of the nodes. -/
theorem bbV_nodes {xs : List It} {n : Nat} {d tol : Int} (hok : itemsOk xs = true) (hn : xs.length = n) (hw : widthOk d = true) (ht : inR tol 0 10000 = true) :
    bbV xs d tol = match Dp.tbl (ndC xs d tol) n with
      | none => ([], 0, false)
      | some (v, _) => ((Dp.path (ndC xs d tol) n).map (fun (k : Nat) => (k : Int) - 1), v, true) := by
  have hp := last_brk hok hn
  have hst := stps_eq hok hn
  have hlen : (Dp.sts (ndP xs) (n + 1)).length = Dp.rk (ndP xs) n + 1 := Dp.rk_yes hp
  have hbl : (brksV xs).length = Dp.rk (ndP xs) n := by
    have h1 := stps_len xs
    rw [hst, List.length_map, hlen] at h1
    omega
  have hget : ∀ k, k ≤ Dp.rk (ndP xs) n → (stps xs).getD k default = (((Dp.sts (ndP xs) (n + 1)).getD k 0 : Nat) : Int) - 1 := by
    intro k hk
    rw [hst, List.getD_eq_getElem?_getD, List.getD_eq_getElem?_getD, List.getElem?_map, List.getElem?_eq_getElem (by omega)]
    rfl
  have hcc : ∀ k i, k < i → i ≤ Dp.rk (ndP xs) n → stC xs d tol k i = (fun k i => ndC xs d tol ((Dp.sts (ndP xs) (n + 1)).getD k 0) ((Dp.sts (ndP xs) (n + 1)).getD i 0)) k i := by
    intro k i hk hi
    show lc _ _ _ _ _ = lc _ _ _ _ _
    rw [hget k (by omega), hget i hi]
  have hT := Dp.tbl_stops (n + 1) (fun k i h => ndC_no (xs := xs) (d := d) (tol := tol) k i h) (ndP_zero xs) n (by omega) hp
  have hTC := tbl_congr hcc _ (Nat.le_refl _)
  have hval : bbV xs d tol = pathV (stC xs d tol) (stps xs) (Dp.rk (ndP xs) n) := by rw [bbV, hok, hw, ht, hbl]; rfl
  rw [hval, pathV, hTC]
  rw [← hTC] at hT ⊢
  rcases hs : Dp.tbl (stC xs d tol) (Dp.rk (ndP xs) n) with _ | ⟨v, k⟩
  · rw [hs] at hT
    rw [hT]
    rfl
  · rw [hs] at hT
    have hne : Dp.tbl (ndC xs d tol) n ≠ none := by rw [hT]; intro e; cases e
    have hP := Dp.path_stops (n + 1) (fun k i h => ndC_no (xs := xs) (d := d) (tol := tol) k i h) (ndP_zero xs) n (by omega) hp hne
    have hPC := path_congr hcc _ (Nat.le_refl _) (by rw [hs]; intro e; cases e)
    rw [hT]
    show ((Dp.path (stC xs d tol) (Dp.rk (ndP xs) n)).map _, v, true) = ((Dp.path (ndC xs d tol) n).map _, v, true)
    rw [hP, ← hPC, List.map_map]
    congr 1
    apply List.map_congr_left
    intro i hi
    exact hget i (path_le _ (by rw [hs]; intro e; cases e) i hi)
end Go.Proofs.Ytkmipgekmbngcaa
/- Breaks that divide all items into lines, in plain terms. No program. No condition. -/
namespace Go.Proofs.Ytkmipgekmbngcaa

def lns (xs : List It) (bs : List Int) : Nat → Bool
  | 0 => true
  | j + 1 => lns xs bs j && lnOk xs (frm bs j) (bs.getD j default)
def vbV (xs : List It) (bs : List Int) : Bool := itemsOk xs && decide (0 < bs.length) && (frm bs bs.length == (xs.length : Int) - 1) && lns xs bs bs.length
section
variable {xs : List It} {bs : List Int} {j n m : Nat}
theorem lns_yes (h : lns xs bs j = true) (h' : lnOk xs (frm bs j) (bs.getD j default) = true) : lns xs bs (j + 1) = true := by rw [lns, h, h']; rfl
theorem lns_no (h' : lnOk xs (frm bs j) (bs.getD j default) = false) : lns xs bs (j + 1) = false := by rw [lns, h', Bool.and_false]
theorem lns_stop (h : lns xs bs j = false) (i : Nat) : lns xs bs (j + i) = false := by
  induction i with
  | zero => exact h
  | succ i ih => rw [← Nat.add_assoc, lns, ih]; rfl
theorem lns_of (h : lns xs bs n = true) : ∀ j, j < n → lnOk xs (frm bs j) (bs.getD j default) = true := by
  intro j hj
  rcases hq : lnOk xs (frm bs j) (bs.getD j default) with _ | _
  · have := lns_stop (lns_no hq) (n - (j + 1))
    rw [show j + 1 + (n - (j + 1)) = n by omega, h] at this
    cases this
  · rfl
theorem lns_b (hok : itemsOk xs = true) (hn : xs.length = n) : ∀ j, lns xs bs j = true → (j : Int) ≤ frm bs j + 1 ∧ frm bs j < (n : Int) := by
  intro j
  induction j with
  | zero => intro _; have := (itemsOk_len hok hn).1; simp [frm]; omega
  | succ j ih =>
    intro h
    rw [lns, Bool.and_eq_true] at h
    obtain ⟨h1, h2⟩ := ih h.1
    obtain ⟨a, u, e1, e2, h3, h4, _⟩ := ln_iff hn h.2
    rw [frm_succ, e2]
    omega
theorem vb_no1 (h : itemsOk xs = false) : vbV xs bs = false := by rw [vbV, h]; rfl
theorem vb_zero (h : bs.length = 0) : vbV xs bs = false := by rw [vbV, h]; simp
theorem vb_last (hn : bs.length = m) (hx : xs.length = n) {f : Int} (hf : frm bs m = f) (h : ¬ f = (n : Int) - 1) : vbV xs bs = false := by
  rw [vbV, hn, hf, hx, show (f == (n : Int) - 1) = false by simpa using h]
  simp
theorem vb_bad (hn : bs.length = m) (h : lnOk xs (frm bs j) (bs.getD j default) = false) (hj : j < m) : vbV xs bs = false := by
  have := lns_stop (lns_no h) (m - (j + 1))
  rw [show j + 1 + (m - (j + 1)) = m by omega] at this
  rw [vbV, hn, this, Bool.and_false]
theorem vb_yes (h0 : itemsOk xs = true) (hn : bs.length = m) (hp : 0 < m) (hx : xs.length = n) {f : Int} (hf : frm bs m = f) (h : f = (n : Int) - 1) (hl : lns xs bs m = true) : vbV xs bs = true := by
  rw [vbV, h0, hn, hf, hx, h, hl, decide_eq_true hp]
  simp
theorem vb_iff (hn : bs.length = m) (hx : xs.length = n) (h : vbV xs bs = true) : itemsOk xs = true ∧ 0 < m ∧ frm bs m = (n : Int) - 1 ∧ lns xs bs m = true := by
  simp only [vbV, Bool.and_eq_true, decide_eq_true_eq, beq_iff_eq, hn, hx] at h
  exact ⟨h.1.1.1, h.1.1.2, h.1.2, h.2⟩
theorem frm_last (h : 0 < m) : frm bs m = bs.getD (m - 1) default := by rw [frm, if_neg (by omega)]
end
end Go.Proofs.Ytkmipgekmbngcaa
/- The cheapest breaks for a shape, in plain terms: they are accepted, no breaks are cheaper, one width is as a width; over the nodes and over the stops. No program. No condition. -/
namespace Go.Proofs.Ytkmipgekmbngcaa

/-- The cost of line l from node to node. -/
def shC (xs : List It) (sh : List Int) (tol : Int) (l k i : Nat) : Option Int := ndC xs (wof sh l) tol k i
/-- The cheapest way for a shape, over some stops. -/
def pathS (C : Nat → Nat → Nat → Option Int) (f : Nat → Int) (N : Nat) : List Int × Int × Bool := match Dp.bestL (fun l => (Dp.T2 C (l + 1) N).map Prod.fst) N with
  | none => ([], 0, false)
  | some (v, l) => ((Dp.path2 C (l + 1) N).map f, v, true)
def nd1 (k : Nat) : Int := (k : Int) - 1
def shV (xs : List It) (sh : List Int) (tol : Int) : List Int × Int × Bool := if itemsOk xs && shapeOk sh && inR tol 0 10000 then pathS (shC xs sh tol) nd1 xs.length else ([], 0, false)
section
variable {C : Nat → Nat → Nat → Option Int} {f : Nat → Int} {N n l : Nat} {v tol : Int} {xs : List It} {sh bs : List Int} {wd : Nat → Int}
theorem pathS_none (h : Dp.bestL (fun l => (Dp.T2 C (l + 1) N).map Prod.fst) N = none) : pathS C f N = ([], 0, false) := by rw [pathS, h]
theorem pathS_some (h : Dp.bestL (fun l => (Dp.T2 C (l + 1) N).map Prod.fst) N = some (v, l)) : pathS C f N = ((Dp.path2 C (l + 1) N).map f, v, true) := by rw [pathS, h]
theorem shV_no (h : (itemsOk xs && shapeOk sh && inR tol 0 10000) = false) : shV xs sh tol = ([], 0, false) := by rw [shV, h]; rfl
theorem shV_yes (hn : xs.length = n) (h : (itemsOk xs && shapeOk sh && inR tol 0 10000) = true) : shV xs sh tol = pathS (shC xs sh tol) nd1 n := by rw [shV, h, hn]; rfl
theorem fst_some {o : Option (Int × Nat)} (h : o.map Prod.fst = some v) : ∃ k, o = some (v, k) := by
  rcases o with _ | ⟨a, k⟩
  · cases h
  · simp only [Option.map_some, Option.some.injEq] at h
    exact ⟨k, by rw [h]⟩
theorem pathS_len : (pathS C f N).1.length ≤ N := by
  rcases hb : Dp.bestL (fun l => (Dp.T2 C (l + 1) N).map Prod.fst) N with _ | ⟨v, l⟩
  · rw [pathS_none hb]; exact Nat.zero_le _
  · rw [pathS_some hb]
    obtain ⟨hl, h1, _⟩ := Dp.bestL_some _ _ _ hb
    obtain ⟨k, h2⟩ := fst_some h1
    show (List.map _ _).length ≤ N
    rw [List.length_map, Dp.path2_len _ _ (by rw [h2]; intro e; cases e)]
    omega
theorem shV_len : (shV xs sh tol).1.length ≤ xs.length := by
  rcases hv : (itemsOk xs && shapeOk sh && inR tol 0 10000) with _ | _
  · rw [shV_no hv]; exact Nat.zero_le _
  · rw [shV_yes rfl hv]; exact pathS_len
theorem getD_snoc1 {bs : List Int} {x : Int} {j : Nat} (h : j < bs.length) : (bs ++ [x]).getD j default = bs.getD j default := by
  rw [List.getD_eq_getElem?_getD, List.getD_eq_getElem?_getD, List.getElem?_append_left h]
theorem getD_snoc2 {bs : List Int} {x : Int} {j : Nat} (h : j = bs.length) : (bs ++ [x]).getD j default = x := by
  subst h
  rw [List.getD_eq_getElem?_getD, List.getElem?_append_right (Nat.le_refl _), Nat.sub_self]
  rfl
theorem frm_snoc {x : Int} {j : Nat} (h : j ≤ bs.length) : frm (bs ++ [x]) j = frm bs j := by
  unfold frm
  split
  · rfl
  · exact getD_snoc1 (by omega)
theorem sumJ_snoc {x : Int} : ∀ j, j ≤ bs.length → sumJ xs wd tol (bs ++ [x]) j = sumJ xs wd tol bs j := by
  intro j
  induction j with
  | zero => intro _; rfl
  | succ j ih =>
    intro h
    rw [sumJ, sumJ, ih (by omega), frm_snoc (by omega), getD_snoc1 (by omega)]
/-- The way to a node has the sum that the table tells. -/
theorem sh_path : ∀ n i v k, Dp.T2 (shC xs sh tol) n i = some (v, k) → ((Dp.path2 (shC xs sh tol) n i).map nd1).length = n ∧ frm ((Dp.path2 (shC xs sh tol) n i).map nd1) n = (i : Int) - 1 ∧ sumJ xs (wof sh) tol ((Dp.path2 (shC xs sh tol) n i).map nd1) n = some v := by
  intro n
  induction n with
  | zero =>
    intro i v k h
    rcases Nat.eq_zero_or_pos i with rfl | hi
    · rw [Dp.T2_zero] at h; cases h
      exact ⟨rfl, rfl, rfl⟩
    · rw [Dp.T2_zero' hi] at h; cases h
  | succ n ih =>
    intro i v k h
    obtain ⟨hk, u, k', s, h1, h2, rfl⟩ := Dp.T2_some h
    obtain ⟨e1, e2, e3⟩ := ih k u k' h1
    rw [Dp.path2_succ h, List.map_append]
    obtain ⟨P, hP⟩ : ∃ P, (Dp.path2 (shC xs sh tol) n k).map nd1 = P := ⟨_, rfl⟩
    rw [hP] at e1 e2 e3 ⊢
    have g : (P ++ [nd1 i]).getD n default = (i : Int) - 1 := getD_snoc2 e1.symm
    refine ⟨by simp [e1], ?_, ?_⟩
    · rw [frm_succ]; exact g
    · refine sumJ_yes (by rw [← e3]; exact sumJ_snoc (x := nd1 i) n (by omega)) ?_
      show lc xs _ tol (frm (P ++ [nd1 i]) n) ((P ++ [nd1 i]).getD n default) = _
      rw [frm_snoc (by omega), e2, g]
      exact h2
theorem lns_sum : ∀ j s, sumJ xs wd tol bs j = some s → lns xs bs j = true := by
  intro j
  induction j with
  | zero => intro s _; rfl
  | succ j ih =>
    intro s h
    rcases hs : sumJ xs wd tol bs j with _ | s'
    · rw [sumJ, hs] at h; cases h
    · rcases hl : lnOk xs (frm bs j) (bs.getD j default) with _ | _
      · rw [sumJ_no1 hs (lc_line hl)] at h; cases h
      · exact lns_yes (ih s' hs) hl
/-- The cheapest breaks are accepted. -/
theorem sh_chk (h : shV xs sh tol = (bs, v, true)) : chkV xs sh tol bs = some v ∧ vbV xs bs = true := by
  rcases hv : (itemsOk xs && shapeOk sh && inR tol 0 10000) with _ | _
  · rw [shV_no hv] at h; cases h
  · rw [shV_yes rfl hv] at h
    rcases hb : Dp.bestL (fun l => (Dp.T2 (shC xs sh tol) (l + 1) xs.length).map Prod.fst) xs.length with _ | ⟨b, l⟩
    · rw [pathS_none hb] at h; cases h
    · rw [pathS_some hb] at h
      injection h with h1 h2
      injection h2 with h2 _
      subst h1 h2
      obtain ⟨hl, h1, _⟩ := Dp.bestL_some _ _ _ hb
      obtain ⟨k, h2⟩ := fst_some h1
      obtain ⟨e1, e2, e3⟩ := sh_path _ _ _ _ h2
      obtain ⟨P, hP⟩ : ∃ P, (Dp.path2 (shC xs sh tol) (l + 1) xs.length).map nd1 = P := ⟨_, rfl⟩
      rw [hP] at e1 e2 e3 ⊢
      constructor
      · rw [chkV, hv]
        show chkP _ _ _ _ = _
        rw [chkP, if_neg (by omega), e1, if_pos e2, e3]
      · simp only [Bool.and_eq_true] at hv
        exact vb_yes hv.1.1 e1 (by omega) rfl e2 rfl (lns_sum _ _ e3)
theorem sh_sum : ∀ (j : Nat) (s : Int), sumJ xs (wof sh) tol bs j = some s → -1 ≤ frm bs j ∧ ∃ v k, Dp.T2 (shC xs sh tol) j (frm bs j + 1).toNat = some (v, k) ∧ v ≤ s := by
  intro j
  induction j with
  | zero => intro s h; rw [sumJ] at h; cases h; exact ⟨by simp [frm], 0, 0, Dp.T2_zero _, by omega⟩
  | succ j ih =>
    intro s h
    rcases hs : sumJ xs (wof sh) tol bs j with _ | s'
    · rw [sumJ, hs] at h; cases h
    · obtain ⟨h0, v, k, h1, h2⟩ := ih s' hs
      rcases hc : lc xs (wof sh j) tol (frm bs j) (bs.getD j default) with _ | c
      · rw [sumJ_no1 hs hc] at h; cases h
      · rw [sumJ_yes hs hc] at h
        cases h
        have hlt : frm bs j < bs.getD j default := by
          rcases hl : lnOk xs (frm bs j) (bs.getD j default) with _ | _
          · rw [lc_line hl] at hc; cases hc
          · obtain ⟨a, u, hf, ht, h3, h4, _⟩ := ln_iff rfl hl
            omega
        rw [frm_succ]
        have hnd : shC xs sh tol j (frm bs j + 1).toNat (bs.getD j default + 1).toNat = some c := by
          rw [shC, ndC, show (((frm bs j + 1).toNat : Nat) : Int) - 1 = frm bs j by omega, show (((bs.getD j default + 1).toNat : Nat) : Int) - 1 = bs.getD j default by omega]
          exact hc
        obtain ⟨v2, f, e5, e6⟩ := Dp.T2_le (by omega) h1 hnd
        exact ⟨by omega, v2, f, e5, by omega⟩
/-- No breaks that are accepted are cheaper. -/
theorem sh_best {V : Int} (h : chkV xs sh tol bs = some V) : (shV xs sh tol).2.2 = true ∧ (shV xs sh tol).2.1 ≤ V := by
  rcases hv : (itemsOk xs && shapeOk sh && inR tol 0 10000) with _ | _
  · rw [chkV, hv] at h; cases h
  · rw [chkV, hv] at h
    have h : chkP xs (wof sh) tol bs = some V := h
    rw [shV_yes rfl hv]
    unfold chkP at h
    split at h
    · cases h
    · split at h
      · rename_i hq hl
        obtain ⟨_, v, k, h1, h2⟩ := sh_sum _ _ h
        rw [hl, show ((xs.length : Int) - 1 + 1).toNat = xs.length by omega] at h1
        have hle : bs.length ≤ xs.length := by
          rcases Nat.lt_or_ge xs.length bs.length with hlt | hge
          · rw [Dp.T2_low hlt] at h1; cases h1
          · exact hge
        obtain ⟨l, hl'⟩ : ∃ l, bs.length = l + 1 := ⟨bs.length - 1, by omega⟩
        rw [hl'] at h1
        rcases hb : Dp.bestL (fun l => (Dp.T2 (shC xs sh tol) (l + 1) xs.length).map Prod.fst) xs.length with _ | ⟨b, l2⟩
        · have := Dp.bestL_none _ hb l (by omega)
          simp only [h1] at this
          cases this
        · rw [pathS_some hb]
          refine ⟨rfl, ?_⟩
          have := (Dp.bestL_some _ _ _ hb).2.2 l v (by omega) (by simp only [h1]; rfl)
          show b ≤ V
          omega
      · cases h
/-- A shape of one width is a width. -/
theorem sh_const {d : Int} (h1 : shapeOk [d] = widthOk d) (hw : ∀ k, wof [d] k = d) : (shV xs [d] tol).2.2 = (bbV xs d tol).2.2 ∧ (shV xs [d] tol).2.1 = (bbV xs d tol).2.1 := by
  rcases hv : (itemsOk xs && widthOk d && inR tol 0 10000) with _ | _
  · rw [shV_no (by rw [h1, hv]), bbV, hv]; exact ⟨rfl, rfl⟩
  · rw [shV_yes rfl (by rw [h1, hv])]
    simp only [Bool.and_eq_true] at hv
    have hlen := (itemsOk_len hv.1.1 rfl).1
    rw [bbV_nodes hv.1.1 rfl hv.1.2 hv.2]
    have hC : shC xs [d] tol = fun _ => ndC xs d tol := by
      funext l k i
      rw [shC, hw]
    rw [hC]
    rcases hb : Dp.bestL (fun l => (Dp.T2 (fun _ => ndC xs d tol) (l + 1) xs.length).map Prod.fst) xs.length with _ | ⟨b, l⟩
    · rw [pathS_none hb]
      rcases ht : Dp.tbl (ndC xs d tol) xs.length with _ | ⟨v, k⟩
      · exact ⟨rfl, rfl⟩
      · obtain ⟨n, v', k', e1, e2, e3, _⟩ := Dp.tbl_T2 _ _ _ ht
        have hn := e2 (by omega)
        obtain ⟨l, rfl⟩ : ∃ l, n = l + 1 := ⟨n - 1, by omega⟩
        have := Dp.bestL_none _ hb l (by omega)
        simp only [e3] at this
        cases this
    · rw [pathS_some hb]
      obtain ⟨hl, h3, h4⟩ := Dp.bestL_some _ _ _ hb
      obtain ⟨k, h5⟩ := fst_some h3
      obtain ⟨v', k', h6, h7⟩ := Dp.T2_tbl _ _ _ _ h5
      rw [h6]
      refine ⟨rfl, ?_⟩
      obtain ⟨n, v2, k2, e1, e2, e3, e4⟩ := Dp.tbl_T2 _ _ _ h6
      have hn := e2 (by omega)
      obtain ⟨l2, rfl⟩ : ∃ l, n = l + 1 := ⟨n - 1, by omega⟩
      have := h4 l2 v2 (by omega) (by simp only [e3]; rfl)
      show b = v'
      omega
/-- The cost of line l from stop to stop. -/
def stS (xs : List It) (sh : List Int) (tol : Int) (l k i : Nat) : Option Int := lc xs (wof sh l) tol ((stps xs).getD k default) ((stps xs).getD i default)
/-- The same over the stops. -/
theorem sh_stops (hok : itemsOk xs = true) (hn : xs.length = n) : pathS (stS xs sh tol) (fun i => (stps xs).getD i default) (brksV xs).length = pathS (shC xs sh tol) nd1 n := by
  have hp := last_brk hok hn
  have hst := stps_eq hok hn
  have hlen : (Dp.sts (ndP xs) (n + 1)).length = Dp.rk (ndP xs) n + 1 := Dp.rk_yes hp
  have hbl : (brksV xs).length = Dp.rk (ndP xs) n := by
    have h1 := stps_len xs
    rw [hst, List.length_map, hlen] at h1
    omega
  have hrn : Dp.rk (ndP xs) n ≤ n := by
    rw [← hbl]
    have := brksV_len xs
    omega
  have hget : ∀ k, k ≤ Dp.rk (ndP xs) n → (stps xs).getD k default = (((Dp.sts (ndP xs) (n + 1)).getD k 0 : Nat) : Int) - 1 := by
    intro k hk
    rw [hst, List.getD_eq_getElem?_getD, List.getD_eq_getElem?_getD, List.getElem?_map, List.getElem?_eq_getElem (by omega)]
    rfl
  have hcc : ∀ l k i, k < i → i ≤ Dp.rk (ndP xs) n → stS xs sh tol l k i = (fun l k i => shC xs sh tol l ((Dp.sts (ndP xs) (n + 1)).getD k 0) ((Dp.sts (ndP xs) (n + 1)).getD i 0)) l k i := by
    intro l k i hk hi
    show lc _ _ _ _ _ = lc _ _ _ _ _
    rw [hget k (by omega), hget i hi]
  have hC : ∀ l k i, ndP xs k = false → shC xs sh tol l k i = none := fun l k i h => ndC_no (xs := xs) (d := wof sh l) (tol := tol) k i h
  have hT := fun l => Dp.T2_stops (n + 1) hC (ndP_zero xs) l n (by omega) hp
  have hTC := fun l => Dp.T2_congr hcc l _ (Nat.le_refl _)
  have hf : ∀ l, (Dp.T2 (stS xs sh tol) l (Dp.rk (ndP xs) n)).map Prod.fst = (Dp.T2 (shC xs sh tol) l n).map Prod.fst := by
    intro l
    rw [hT l, hTC l, Dp.lift, Option.map_map]
    rfl
  have hbest : Dp.bestL (fun l => (Dp.T2 (stS xs sh tol) (l + 1) (Dp.rk (ndP xs) n)).map Prod.fst) (Dp.rk (ndP xs) n) = Dp.bestL (fun l => (Dp.T2 (shC xs sh tol) (l + 1) n).map Prod.fst) n := by
    have e1 := Dp.bestL_more (t := fun l => (Dp.T2 (stS xs sh tol) (l + 1) (Dp.rk (ndP xs) n)).map Prod.fst) (m := Dp.rk (ndP xs) n) (n - Dp.rk (ndP xs) n) (fun j hj => by
      show Option.map _ _ = none
      rw [Dp.T2_low (by omega)]; rfl)
    rw [show Dp.rk (ndP xs) n + (n - Dp.rk (ndP xs) n) = n by omega] at e1
    rw [← e1]
    exact Dp.bestL_congr _ fun j _ => hf (j + 1)
  rw [hbl]
  rcases hb : Dp.bestL (fun l => (Dp.T2 (shC xs sh tol) (l + 1) n).map Prod.fst) n with _ | ⟨v, l⟩
  · rw [pathS_none hb, pathS_none (hbest.trans hb)]
  · rw [pathS_some hb, pathS_some (hbest.trans hb)]
    obtain ⟨hl, h1, _⟩ := Dp.bestL_some _ _ _ hb
    obtain ⟨k, h2⟩ := fst_some h1
    have hne : Dp.T2 (shC xs sh tol) (l + 1) n ≠ none := by rw [h2]; intro e; cases e
    have hne2 : Dp.T2 (stS xs sh tol) (l + 1) (Dp.rk (ndP xs) n) ≠ none := by
      intro e
      have := hf (l + 1)
      rw [e, h2] at this
      cases this
    rw [Dp.path2_stops (n + 1) hC (ndP_zero xs) (l + 1) n (by omega) hp hne, ← Dp.path2_congr hcc (l + 1) _ (Nat.le_refl _), List.map_map]
    congr 1
    apply List.map_congr_left
    intro i hi
    exact hget i (Dp.path2_le _ _ hne2 i hi)
end
end Go.Proofs.Ytkmipgekmbngcaa
