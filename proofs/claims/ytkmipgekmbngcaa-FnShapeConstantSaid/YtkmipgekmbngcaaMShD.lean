/- A region that draws its order, whose head is quiet in a class of worlds (reads, and calls that leave a world of the class) and whose tail is one forced order: one walk of the head in the order of the text, then the tail in every world of the class. No condition beyond the closed Bool over the region. Built on the library's own notions of a quiet operation and of a forced tail. -/
import Derived.Test.YtkmipgekmbngcaaMShC
import Derived.StillTail
import Derived.StillTactics
import Derived.Deep.Quiet
import Derived.Deep.QuietTactic
import Derived.BigQuiet
import Derived.BigGuardPart
namespace Go.Proofs.Ytkmipgekmbngcaa
open Go

section
variable {P : Program} {ops : Array Oper} {md : Region.Mode} {C : World → Prop}

/-- All ways through the head: each operation that comes up is one of the first n and quiet; behind f of them L holds. -/
def HeadQ (P : Program) (md : Region.Mode) (ops : Array Oper) (C : World → Prop) (n : Nat) (L : Array Bool → Act → Prop) : Nat → Array Bool → Act → Prop
  | 0, listed, a => L listed a
  | f + 1, listed, a => Region.ready md ops listed ≠ [] ∧ ∀ i ∈ Region.ready md ops listed, i < n ∧ qOp P ops C i (HeadQ P md ops C n L f (listed.setIfInBounds i true)) a

theorem any_of_head {n g : Nat} {L : Array Bool → Act → Prop} {Q' : Exit → Act → World → Prop} (hL : ∀ listed a w, C w → L listed a → wpAny P md ops Q' g listed a w) (f : Nat) :
    ∀ (listed : Array Bool) (a : Act) (w : World), C w → HeadQ P md ops C n L f listed a → wpAny P md ops Q' (f + g) listed a w := by
  induction f with
  | zero => intro listed a w hw h; rw [Nat.zero_add]; exact hL _ _ _ hw h
  | succ f ih =>
    intro listed a w hw h
    have e : f + 1 + g = (f + g) + 1 := by omega
    rw [e]
    exact ⟨fun h0 => absurd h0 h.1, fun i hi => wpOp_of_qOp hw (fun a' w' hw' h' => ih _ a' w' hw' h') (h.2 i hi).2⟩

theorem head_first {n i : Nat} {oi : Oper} {v : Value} {L : Array Bool → Act → Prop} (hi : ops[i]? = some oi) (hsel : ∀ (j : Nat) (o : Oper) cs b, ops[j]? = some o → o.op ≠ .select cs b)
    (hs : Region.sinkB md ops n = true) (hc : Region.chainB md ops n = true) (hn : n < ops.size) (hin : i < n)
    (hdone : ∀ listed a, L listed a → ∀ j ∈ Region.ready md ops listed, n ≤ j) (f : Nat) :
    ∀ (listed : Array Bool) (a : Act), HeadInv md ops n listed →
      (∀ j oj, ops[j]? = some oj → j ≠ i → listed.getD j true = false → (∀ e ∈ oj.after, Region.binds md e = true → e.on ≠ i) → oi.apart ops oj = true) →
      i ∈ Region.ready md ops listed → YieldsIn P ops C oi v a →
      HeadQ P md ops C n L f (listed.setIfInBounds i true) (a.put oi.dst v) → HeadQ P md ops C n L (f + 1) listed a := by
  induction f with
  | zero =>
    intro listed a inv _ hr hy H
    have hun := (mem_ready.1 hr).1
    refine ⟨List.ne_nil_of_mem hr, fun j hj => ?_⟩
    have hjn : j < n := Nat.lt_of_not_le fun h => tail_waits hs hc hn inv _ i rfl hin hun j h hj
    by_cases hji : j = i
    · exact ⟨hjn, hji ▸ hy.qOp hi (hji ▸ H)⟩
    · have := hdone _ _ H j (ready_mono hj hji)
      omega
  | succ f ih =>
    intro listed a inv hfree hr hy H
    have hun := (mem_ready.1 hr).1
    refine ⟨List.ne_nil_of_mem hr, fun j hj => ?_⟩
    have hjn : j < n := Nat.lt_of_not_le fun h => tail_waits hs hc hn inv _ i rfl hin hun j h hj
    by_cases hji : j = i
    · exact ⟨hjn, hji ▸ hy.qOp hi (hji ▸ H)⟩
    · obtain ⟨hjun, oj, hoj, hall⟩ := mem_ready.1 hj
      have hnot : ∀ e ∈ oj.after, Region.binds md e = true → e.on ≠ i := by
        intro e he hb heq
        have h1 := hall e he hb
        rw [heq, getD_both hun] at h1
        cases h1
      have h2 := qOp_put hoj (hfree j oj hoj hji hjun hnot) (fun cs b => hsel i oi cs b hi) (fun cs b => hsel j oj cs b hoj) hy (H.2 j (ready_mono hj hji)).2
      have hfree' : ∀ k ok, ops[k]? = some ok → k ≠ i → (listed.setIfInBounds j true).getD k true = false →
          (∀ e ∈ ok.after, Region.binds md e = true → e.on ≠ i) → oi.apart ops ok = true := by
        intro k ok hk hki hku hno
        by_cases hjk : j = k
        · exact hfree k ok hk hki (hjk ▸ hjun) hno
        · rw [getD_set_ne true hjk] at hku
          exact hfree k ok hk hki hku hno
      refine ⟨hjn, qOp_mono (fun a' h3 => ih (listed.setIfInBounds j true) a' (inv.set hj hjn) hfree' (ready_mono hr (Ne.symm hji)) h3.1 ?_) h2⟩
      rw [Array.setIfInBounds_comm _ _ hji]
      exact h3.2

theorem head_lex {n g : Nat} {Lq : Act → Prop} (hsel : Region.noSelect ops = true) (hs : Region.sinkB md ops n = true) (hc : Region.chainB md ops n = true) (hn : n < ops.size) (l : List Oper) :
    ∀ (k : Nat) (listed : Array Bool) (a : Act), (∀ j, j < l.length → l[j]? = ops[k + j]?) → k + l.length = n → HeadInv md ops n listed →
    Region.lexHead md ops g l.length k listed = true → wpQuiet P ops C Lq l a →
    HeadQ P md ops C n (fun listed' a' => Region.seqB md ops g n listed' = true ∧ Lq a') l.length listed a := by
  induction l with
  | nil =>
    intro k listed a _ hk _ hB h
    have : k = n := by simpa using hk
    subst this
    exact ⟨by simpa [Region.lexHead] using hB, h⟩
  | cons o l ih =>
    intro k listed a hl hk inv hB h
    have h0 : ops[k]? = some o := by simpa using (hl 0 (by simp)).symm
    simp only [List.length_cons, Region.lexHead, Bool.and_eq_true] at hB hk
    obtain ⟨⟨hr, hf⟩, hB'⟩ := hB
    have hkn : k < n := by omega
    have hr' : k ∈ Region.ready md ops listed := by simpa using hr
    have hst : qOp P ops C k (wpQuiet P ops C Lq l) a := by unfold qOp; simp only [h0]; exact h
    obtain ⟨v, hy, hK⟩ := yieldsIn_of_qOp h0 hst
    refine head_first h0 (Region.noSelect_spec hsel) hs hc hn hkn (fun listed' a' hL => seqB_ready hL.1) l.length listed a inv (Region.free_spec h0 hf) hr' hy ?_
    exact ih (k + 1) _ _ (fun j hj => by have := hl (j + 1) (by simp; omega); simpa [Nat.add_assoc, Nat.add_comm 1 j] using this) (by omega) (inv.set hr' hkn) hB' hK

/-- The head quiet in the class, the tail in every world of the class. -/
theorem region_quiet_tail (C : World → Prop) {id : Nat} {Q : Exit → Act → World → Prop} {a : Act} {w : World} {l : List Oper} (n : Nat) (hm : P.follows .mixedOrders = true) (hB : Region.lexTailB .any l.toArray n = true)
    (hC : C w.drew) (h : wpQuiet P l.toArray C (fun a' => ∀ w', C w' → wpList P l.toArray Q (l.drop n) a' w') (l.take n) a) : (Code.region id l.toArray true).wp P Q a w := by
  simp only [Region.lexTailB, Bool.and_eq_true, decide_eq_true_eq] at hB
  obtain ⟨⟨⟨⟨hsel, hn⟩, hs⟩, hc⟩, hlex⟩ := hB
  have hn' : n < l.length := by simpa using hn
  have htl : (l.take n).length = n := by simp; omega
  have hdl : (l.drop n).length = l.toArray.size - n := by simp
  have inv0 : HeadInv .any l.toArray n (Array.replicate l.toArray.size false) :=
    ⟨by simp, fun j oj _ hl => (by rw [getD_replicate_false] at hl; cases hl), fun t _ ht => getD_in (by simpa using ht) (getD_replicate_false _ _)⟩
  have H := head_lex (md := .any) (g := l.toArray.size - n) hsel hs hc hn (l.take n) 0 _ a (fun j hj => by
    have hj' : j < n := by rw [htl] at hj; exact hj
    simp [hj']) (by simpa using htl) inv0 (by rw [htl]; exact hlex) h
  refine wp_region_any hm ?_
  have key := any_of_head (Q' := Q) (g := l.toArray.size - n) (fun listed a' w' hw' hL => by
    have h1 := wpAny_of_seq (md := .any) (Q' := Q) (l.drop n) n listed a' w' (fun j => by simp [List.getElem?_drop]) (by rw [hdl]; exact hL.1) (hL.2 w' hw')
    rwa [hdl] at h1) _ _ _ _ hC H
  rw [htl, show n + (l.toArray.size - n) = l.toArray.size by omega] at key
  exact key
end
end Go.Proofs.Ytkmipgekmbngcaa
/- The glue of a line, of the reference, is what the plain functions say. Conditions: the slice reads as the list; the items are valid; the line lies in them. -/
namespace Go.Proofs.Ytkmipgekmbngcaa
open Go.RowKit

theorem addGlue_s (a b c d e f : Int) (w : World) (h1 : (0 ≤ a ∧ a ≤ 100000) ∧ (0 ≤ b ∧ b ≤ 100000) ∧ (0 ≤ c ∧ c ≤ 100000)) (h2 : (0 ≤ d ∧ d ≤ 100000) ∧ (0 ≤ e ∧ e ≤ 100000) ∧ (0 ≤ f ∧ f ≤ 100000)) :
    Calls Try.prog 94 #[.agg #[.int .i64 a, .int .i64 b, .int .i64 c], .agg #[.int .i64 d, .int .i64 e, .int .i64 f]] w fun o w' => o = .returned (.agg #[.int .i64 (a + d), .int .i64 (b + e), .int .i64 (c + f)]) ∧ Below w.heap.size w w' := by
  obtain ⟨⟨a1, a2⟩, ⟨b1, b2⟩, c1, c2⟩ := h1
  obtain ⟨⟨d1, d2⟩, ⟨e1, e2⟩, f1, f2⟩ := h2
  go_enter Try.func94, Try.ntmps94
  go_wp2
  (first | go_returns | (refine bodyPost_ret (by simp [results, Try.results94, go_sem, *]; try rfl) rfl ?_))
  exact ⟨rfl, by (repeat' (first | (with_reducible exact Below.refl _ _) | (with_reducible assumption) | (with_reducible refine Below.alloc ?_ ?_ _) | (with_reducible refine Below.drew ?_) | (with_reducible refine below_drewN ?_ _) | (with_reducible refine Below.setCell ?_ ?_ _) | (with_reducible refine below_then ?_ ?_ (by with_reducible assumption)) | (with_reducible exact Nat.le_refl _) | go_size | (simp only [*]; done)))⟩

set_option maxRecDepth 100000 in
set_option maxHeartbeats 4000000 in
theorem lineGlue_s (A : Option Addr) (n cap a t : Nat) (f : Int) (xs : List It) (w : World) (hok : itemsOk xs = true) (hn : xs.length = n) (hf : f + 1 = (a : Int)) (ha : a ≤ t) (ht : t < n) (hF : noF xs a t = true) (hr : Row w w.heap.size 6 A n (itc xs)) :
    Calls Try.prog 85 #[.slice A n cap, .int .i64 f, .int .i64 (t : Int)] w fun e w' => e = .returned (.agg #[.int .i64 (lgW xs a t), .int .i64 (lgS xs a t), .int .i64 (lgH xs a t)]) ∧ Below w.heap.size w w' := by
  have hm := (itemsOk_len hok hn).2
  have HN := Lib.hid hn
  have HOK := Lib.hid hok
  have HF := Lib.hid hf
  have HNF := Lib.hid hF
  have HR := Lib.hid hr
  clear hok hF
  obtain ⟨b, off, rfl, hbw, hcw⟩ := hr (by omega)
  have HC := Lib.hid hcw
  clear hcw hr
  go_enter Try.func85, Try.ntmps85
  go_wp2_with fail
  ((with_reducible refine (lineStart_s _ _ _ a t f xs _ HN.out hm HF.out ha ht HNF.out ?_).mono ?_); (exact (HR.out.alloc' _).alloc' _); rintro e w1 ⟨⟨s, rfl, s0, s1, hs⟩, hb1⟩)
  have HS := Lib.hid hs
  clear hs
  have hz1 := hb1.size
  simp only [World.size_alloc] at hz1
  have g0 := Lib.hid (((Blk.new w 76 #[.int .i64 0, .int .i64 0, .int .i64 0]).alloc (.cells #[.int .i64 0, .int .i64 0, .int .i64 0] 76)).then_ hb1)
  have g1 := Lib.hid ((Blk.new_at (w.alloc (.cells #[.int .i64 0, .int .i64 0, .int .i64 0] 76)) 76 #[.int .i64 0, .int .i64 0, .int .i64 0] (w.heap.size + 1) (by simp)).then_ hb1)
  have hB1 : Below w.heap.size w w1 := below_then (Nat.le_refl _) (by (repeat' (first | (with_reducible exact Below.refl _ _) | (with_reducible assumption) | (with_reducible refine Below.alloc ?_ ?_ _) | (with_reducible refine Below.drew ?_) | (with_reducible refine below_drewN ?_ _) | (with_reducible refine Below.setCell ?_ ?_ _) | (with_reducible refine below_then ?_ ?_ (by with_reducible assumption)) | (with_reducible exact Nat.le_refl _) | go_size | (simp only [*]; done)))) hb1
  go_wp2_with fail
  go_loopg [8] (t - s) (fun k i wr => ∃ (j : Nat) (p q r : Int), s ≤ j ∧ (j ≤ t ∨ j = s) ∧ k = t - j ∧ i = .int .i64 (j : Int) ∧ Hid (sW (sg xs s j) = p) ∧ Hid (sS (sg xs s j) = q) ∧ Hid (sH (sg xs s j) = r) ∧ Hid (Blk wr w.heap.size 76 #[.int .i64 0, .int .i64 0, .int .i64 0]) ∧ Hid (Blk wr (w.heap.size + 1) 76 #[.int .i64 p, .int .i64 q, .int .i64 r]) ∧ Below w.heap.size w wr)
  case atStart => exact ⟨s, 0, 0, 0, Nat.le_refl _, .inr rfl, rfl, rfl, by rw [Hid, sg_none _ (Nat.le_refl _)]; rfl, by rw [Hid, sg_none _ (Nat.le_refl _)]; rfl, by rw [Hid, sg_none _ (Nat.le_refl _)]; rfl, g0.out, g1.out, hB1⟩
  case round =>
    obtain ⟨j, p, q, r, hsj, hj, hk, rfl, hp, hq, hr', hb0, hb1', hbel⟩ := hrel
    have HK := Lib.hid hk; clear hk
    have hsz := hbel.size
    obtain ⟨⟨p1, p2⟩, ⟨q1, q2⟩, r1, r2⟩ := sg_b HOK.out HN.out (show j ≤ n by omega) hp.out hq.out hr'.out
    have zlt := hb0.out.lt
    have zc0 := hb0.out.cell 0; have zf0 := hb0.out.frozen 0
    have zc1 := hb0.out.cell 1; have zf1 := hb0.out.frozen 1
    have zc2 := hb0.out.cell 2; have zf2 := hb0.out.frozen 2
    simp only [List.getElem?_toArray, List.getElem?_cons_zero, List.getElem?_cons_succ] at zc0 zc1 zc2
    have olt := hb1'.out.lt
    have oc0 := hb1'.out.cell 0; have of0 := hb1'.out.frozen 0
    have oc1 := hb1'.out.cell 1; have of1 := hb1'.out.frozen 1
    have oc2 := hb1'.out.cell 2; have of2 := hb1'.out.frozen 2
    simp only [List.getElem?_toArray, List.getElem?_cons_zero, List.getElem?_cons_succ] at oc0 oc1 oc2
    by_cases hlt : j < t
    · have c0 : wr.cell? ⟨b, off + j * 6, none⟩ = _ := (hbel.cell (p := ⟨b, off + j * 6, none⟩) hbw).trans (HC.out j 0 (by omega) (by omega))
      have c1 : wr.cell? ⟨b, off + j * 6 + 1, none⟩ = _ := (hbel.cell (p := ⟨b, off + j * 6 + 1, none⟩) hbw).trans (HC.out j 1 (by omega) (by omega))
      have c2 : wr.cell? ⟨b, off + j * 6 + 2, none⟩ = _ := (hbel.cell (p := ⟨b, off + j * 6 + 2, none⟩) hbw).trans (HC.out j 2 (by omega) (by omega))
      have c3 : wr.cell? ⟨b, off + j * 6 + 3, none⟩ = _ := (hbel.cell (p := ⟨b, off + j * 6 + 3, none⟩) hbw).trans (HC.out j 3 (by omega) (by omega))
      obtain ⟨x, hx⟩ : ∃ x, xs.getD j default = x := ⟨_, rfl⟩
      simp only [itc, itv, hx] at c0 c1 c2 c3
      obtain ⟨⟨x1, x2⟩, ⟨x3, x4⟩, ⟨x5, x6⟩, _⟩ := itemOk_b (itemsOk_at HOK.out HN.out (show j < n by omega) hx)
      have Hx := Lib.hid hx; clear hx
      have hlt' : (j : Int) < (t : Int) := by omega
      have hltn : (j : Int) < (n : Int) := by omega
      have hbz : b < wr.heap.size := by omega
      rcases h3 : (x.k == 3) with _ | _
      · have h3' : ¬ x.k = 3 := by simpa using h3
        have H3 := Lib.hid h3'
        clear h3'
        go_wp2_with fail
        obtain ⟨C, hC⟩ : ∃ C : World → Prop, ∀ w', C w' ↔ (w'.cell? ⟨w.heap.size + 1, 0, none⟩ = some (.int .i64 p) ∧ w'.cell? ⟨w.heap.size + 1, 1, none⟩ = some (.int .i64 q) ∧ w'.cell? ⟨w.heap.size + 1, 2, none⟩ = some (.int .i64 r) ∧ w'.cell? ⟨b, off + j * 6 + 1, none⟩ = some (.int .i64 x.w) ∧ w'.cell? ⟨b, off + j * 6 + 2, none⟩ = some (.int .i64 x.st) ∧ w'.cell? ⟨b, off + j * 6 + 3, none⟩ = some (.int .i64 x.sh) ∧ Hid (Blk w' w.heap.size 76 #[.int .i64 0, .int .i64 0, .int .i64 0]) ∧ Hid (Blk w' (w.heap.size + 1) 76 #[.int .i64 p, .int .i64 q, .int .i64 r]) ∧ Below w.heap.size w w' ∧ wr.heap.size ≤ w'.heap.size) := ⟨_, fun _ => Iff.rfl⟩
        have HCC := Lib.hid hC; clear hC
        refine region_quiet_tail C 7 (by kernel_rfl) (by kernel_rfl) ?_ ?_
        · exact (HCC.out _).2 ⟨oc0, oc1, oc2, c1, c2, c3, hb0.out, hb1'.out, hbel.drew, Nat.le_refl _⟩
        simp only [List.take_succ_cons, List.take_zero, List.drop_succ_cons, List.drop_zero]
        generalize (List.toArray _ : Array Oper) = OPS
        iterate 7
          refine wpQuiet_step (fun K hK => ?_)
          rw [if_pos (by simp [Region.wanted])]
          apply Exists.intro
          refine ⟨fun w' hw' => ?_, hK _ ?_⟩
          · obtain ⟨z1, z2, z3, z4, z5, z6, z7, z8, z9, z10⟩ := (HCC.out _).1 hw'
            go_simp
            first | (with_reducible rfl) | (go_at_call 94; (with_reducible refine (addGlue_s _ _ _ _ _ _ _ (by omega) (by omega)).mono ?_); rintro e w2 ⟨rfl, hb2⟩; refine ⟨rfl, (HCC.out _).2 ?_⟩; have hbz : b < w'.heap.size := (by omega); have holt : w.heap.size + 1 < w'.heap.size := (by omega); exact ⟨(hb2.cell (p := ⟨w.heap.size + 1, 0, none⟩) holt).trans z1, (hb2.cell (p := ⟨w.heap.size + 1, 1, none⟩) holt).trans z2, (hb2.cell (p := ⟨w.heap.size + 1, 2, none⟩) holt).trans z3, (hb2.cell (p := ⟨b, off + j * 6 + 1, none⟩) hbz).trans z4, (hb2.cell (p := ⟨b, off + j * 6 + 2, none⟩) hbz).trans z5, (hb2.cell (p := ⟨b, off + j * 6 + 3, none⟩) hbz).trans z6, z7.out.then_ hb2, z8.out.then_ hb2, below_then (by omega) z9 hb2, Nat.le_trans z10 hb2.size⟩)
          clear hK K
          conv => arg 6; simp only [Act.put, List.setIfInBounds_toArray, List.set_cons_succ, List.set_cons_zero]
        refine wpQuiet_nil ?_
        intro w2 hw2
        obtain ⟨z1, z2, z3, z4, z5, z6, z7, z8, z9, z10⟩ := (HCC.out _).1 hw2
        clear zlt zc0 zc1 zc2 zf0 zf1 zf2 olt oc0 oc1 oc2 of0 of1 of2 c0 c1 c2 c3
        have rrlt := z7.out.lt
        have rrc0 := z7.out.cell 0; have rrf0 := z7.out.frozen 0
        have rrc1 := z7.out.cell 1; have rrf1 := z7.out.frozen 1
        have rrc2 := z7.out.cell 2; have rrf2 := z7.out.frozen 2
        simp only [List.getElem?_toArray, List.getElem?_cons_zero, List.getElem?_cons_succ] at rrc0 rrc1 rrc2
        have pplt := z8.out.lt
        have ppc0 := z8.out.cell 0; have ppf0 := z8.out.frozen 0
        have ppc1 := z8.out.cell 1; have ppf1 := z8.out.frozen 1
        have ppc2 := z8.out.cell 2; have ppf2 := z8.out.frozen 2
        simp only [List.getElem?_toArray, List.getElem?_cons_zero, List.getElem?_cons_succ] at ppc0 ppc1 ppc2
        have hzz := z9.size
        go_wp2_with fail
        go_roundg (t - (j + 1))
        case measure => have := HK.out; omega
        case rel =>
          refine ⟨j + 1, p + x.w, q + x.st, r + x.sh, by omega, by omega, rfl, by go_num, ?_, ?_, ?_, ?_, ?_, by (repeat' (first | (with_reducible exact Below.refl _ _) | (with_reducible assumption) | (with_reducible refine Below.alloc ?_ ?_ _) | (with_reducible refine Below.drew ?_) | (with_reducible refine below_drewN ?_ _) | (with_reducible refine Below.setCell ?_ ?_ _) | (with_reducible refine below_then ?_ ?_ (by with_reducible assumption)) | (with_reducible exact Nat.le_refl _) | go_size | (simp only [*]; done)))⟩
          · show _ = _
            rw [sg_snoc HN.out (by omega) (by omega) Hx.out, sW_snoc, hp.out, gw, if_neg H3.out]
          · show _ = _
            rw [sg_snoc HN.out (by omega) (by omega) Hx.out, sS_snoc, hq.out, gs, if_neg H3.out]
          · show _ = _
            rw [sg_snoc HN.out (by omega) (by omega) Hx.out, sH_snoc, hr'.out, gh, if_neg H3.out]
          · ((show Blk _ _ _ _); repeat' (first | (with_reducible exact z7.out) | (with_reducible refine Blk.alloc ?_ _) | (with_reducible refine Blk.drew ?_) | (with_reducible refine Blk.drewN ?_ _) | (with_reducible refine Blk.far ?_ ?_ _) | (with_reducible refine Blk.then_ ?_ (by with_reducible assumption)) | (simp; done) | (simp; omega) | omega))
          · ((show Blk _ _ _ _); apply Blk.eq; (case h => (repeat' (first | (with_reducible exact z8.out) | (with_reducible apply Blk.alloc) | (with_reducible apply Blk.drew) | (with_reducible apply Blk.drewN) | (with_reducible apply Blk.set_) | (with_reducible apply Blk.far) | (with_reducible apply Blk.then_; rotate_left; with_reducible assumption) | (simp; done) | (simp; omega) | omega))); (case e => (first | (simp []; done) | (simp [Nat.zero_add]; omega))))
      · have h3' : x.k = 3 := by simpa using h3
        have H3 := Lib.hid h3'
        clear h3'
        go_wp2_with fail
        go_roundg (t - (j + 1))
        case measure => have := HK.out; omega
        case rel =>
          refine ⟨j + 1, p, q, r, by omega, by omega, rfl, by go_num, ?_, ?_, ?_, ?_, ?_, by (repeat' (first | (with_reducible exact Below.refl _ _) | (with_reducible assumption) | (with_reducible refine Below.alloc ?_ ?_ _) | (with_reducible refine Below.drew ?_) | (with_reducible refine below_drewN ?_ _) | (with_reducible refine Below.setCell ?_ ?_ _) | (with_reducible refine below_then ?_ ?_ (by with_reducible assumption)) | (with_reducible exact Nat.le_refl _) | go_size | (simp only [*]; done)))⟩
          · show _ = _
            rw [sg_snoc HN.out (by omega) (by omega) Hx.out, sW_snoc, hp.out, gw, if_pos H3.out, Int.add_zero]
          · show _ = _
            rw [sg_snoc HN.out (by omega) (by omega) Hx.out, sS_snoc, hq.out, gs, if_pos H3.out, Int.add_zero]
          · show _ = _
            rw [sg_snoc HN.out (by omega) (by omega) Hx.out, sH_snoc, hr'.out, gh, if_pos H3.out, Int.add_zero]
          · ((show Blk _ _ _ _); repeat' (first | (with_reducible exact hb0.out) | (with_reducible refine Blk.alloc ?_ _) | (with_reducible refine Blk.drew ?_) | (with_reducible refine Blk.drewN ?_ _) | (with_reducible refine Blk.far ?_ ?_ _) | (with_reducible refine Blk.then_ ?_ (by with_reducible assumption)) | (simp; done) | (simp; omega) | omega))
          · ((show Blk _ _ _ _); repeat' (first | (with_reducible exact hb1'.out) | (with_reducible refine Blk.alloc ?_ _) | (with_reducible refine Blk.drew ?_) | (with_reducible refine Blk.drewN ?_ _) | (with_reducible refine Blk.far ?_ ?_ _) | (with_reducible refine Blk.then_ ?_ (by with_reducible assumption)) | (simp; done) | (simp; omega) | omega))
    · have ej : sg xs s j = sg xs (lst xs a t) t := by
        rw [← HS.out]
        rcases Nat.lt_or_ge s t with h | h
        · rw [show j = t by omega]
        · rw [show j = s by omega, sg_none _ (Nat.le_refl _), sg_none _ h]
      have hpp := hp.out
      have hqq := hq.out
      have hrr := hr'.out
      rw [ej] at hpp hqq hrr
      have c0 : wr.cell? ⟨b, off + t * 6, none⟩ = _ := (hbel.cell (p := ⟨b, off + t * 6, none⟩) hbw).trans (HC.out t 0 (by omega) (by omega))
      have c1 : wr.cell? ⟨b, off + t * 6 + 1, none⟩ = _ := (hbel.cell (p := ⟨b, off + t * 6 + 1, none⟩) hbw).trans (HC.out t 1 (by omega) (by omega))
      obtain ⟨x, hx⟩ : ∃ x, xs.getD t default = x := ⟨_, rfl⟩
      simp only [itc, itv, hx] at c0 c1
      obtain ⟨⟨x1, x2⟩, _⟩ := itemOk_b (itemsOk_at HOK.out HN.out ht hx)
      have ES : lgS xs a t = q := by rw [lgS, hqq]
      have EH : lgH xs a t = r := by rw [lgH, hrr]
      have EW : lgW xs a t = p + (if x.k = 3 then x.w else 0) := by rw [lgW, hpp, kd, hx]
      have HES := Lib.hid ES
      have HEH := Lib.hid EH
      have HEW := Lib.hid EW
      have htn : (t : Int) < (n : Int) := by omega
      clear hx hpp hqq hrr ES EH EW ej
      rcases h3 : (x.k == 3) with _ | _
      · have h3' : ¬ x.k = 3 := by simpa using h3
        have H3 := Lib.hid h3'
        clear h3'
        go_wp2_with fail
        (first | go_returns | (refine bodyPost_ret (by simp [results, Try.results85, go_sem, *]; try rfl) rfl ?_))
        refine ⟨?_, by (repeat' (first | (with_reducible exact Below.refl _ _) | (with_reducible assumption) | (with_reducible refine Below.alloc ?_ ?_ _) | (with_reducible refine Below.drew ?_) | (with_reducible refine below_drewN ?_ _) | (with_reducible refine Below.setCell ?_ ?_ _) | (with_reducible refine below_then ?_ ?_ (by with_reducible assumption)) | (with_reducible exact Nat.le_refl _) | go_size | (simp only [*]; done)))⟩
        rw [HEW.out, HES.out, HEH.out, if_neg H3.out, Int.add_zero]
      · have h3' : x.k = 3 := by simpa using h3
        have H3 := Lib.hid h3'
        clear h3'
        have hne : ¬ b = w.heap.size + 1 := by omega
        go_wp2_with fail
        go_region
        all_goals go_wp2_with fail
        all_goals
          (first | go_returns | (refine bodyPost_ret (by simp [results, Try.results85, go_sem, *]; try rfl) rfl ?_))
          refine ⟨?_, by (repeat' (first | (with_reducible exact Below.refl _ _) | (with_reducible assumption) | (with_reducible refine Below.alloc ?_ ?_ _) | (with_reducible refine Below.drew ?_) | (with_reducible refine below_drewN ?_ _) | (with_reducible refine Below.setCell ?_ ?_ _) | (with_reducible refine below_then ?_ ?_ (by with_reducible assumption)) | (with_reducible exact Nat.le_refl _) | go_size | (simp only [*]; done)))⟩
          rw [HEW.out, HES.out, HEH.out, if_pos H3.out]
end Go.Proofs.Ytkmipgekmbngcaa
/- The cost of a line, of the reference, is what the plain functions say. Conditions: the slice reads as valid items; the line is one. -/
namespace Go.Proofs.Ytkmipgekmbngcaa
open Go.RowKit

set_option maxHeartbeats 1000000 in
theorem badness_s (n v : Int) (w : World) (n0 : 0 ≤ n) (n1 : n ≤ 20000) (v0 : 0 ≤ v) (v1 : v ≤ 10000) :
    Calls Try.prog 92 #[.int .i64 n, .int .i64 v] w fun e w' => e = .returned (.int .i64 (badP n v)) ∧ w' = w := by
  by_cases e1 : n = 0
  · have hb : badP n v = 0 := by rw [badP, if_pos e1]
    rw [hb]
    go_enter Try.func92, Try.ntmps92
    go_wp2_with fail
    go_ret
    exact ⟨rfl, rfl⟩
  by_cases e2 : v = 0
  · have hb : badP n v = 10000 := by rw [badP, if_neg e1, if_pos e2]
    rw [hb]
    go_enter Try.func92, Try.ntmps92
    go_wp2_with fail
    go_ret
    exact ⟨rfl, rfl⟩
  by_cases e3 : 5 * v < n
  · rw [bad_big (show 0 < v by omega) v1 e3 n1]
    go_enter Try.func92, Try.ntmps92
    go_wp2_with fail
    go_ret
    exact ⟨rfl, rfl⟩
  have hb : badP n v = min 10000 (100 * n * n * n / (v * v * v)) := by rw [badP, if_neg e1, if_neg e2]
  rw [hb]
  obtain ⟨⟨a0, a1⟩, ⟨b0, b1⟩, c0, c1⟩ := cube_b n0 n1
  obtain ⟨⟨d0, d1⟩, f0, f1⟩ := cube_h (show 0 < v by omega) v1
  obtain ⟨q0, q1⟩ := quo_b n0 n1 (show 0 < v by omega) v1
  have m1 : IntKind.i64.wrap (100 * n) = 100 * n := IntWalk.i64_in _ (by omega)
  have m2 : IntKind.i64.wrap (100 * n * n) = 100 * n * n := IntWalk.i64_in _ (by omega)
  have m3 : IntKind.i64.wrap (100 * n * n * n) = 100 * n * n * n := IntWalk.i64_in _ (by omega)
  have m4 : IntKind.i64.wrap (v * v) = v * v := IntWalk.i64_in _ (by omega)
  have m5 : IntKind.i64.wrap (v * v * v) = v * v * v := IntWalk.i64_in _ (by omega)
  go_enter Try.func92, Try.ntmps92
  go_wp2_with fail
  all_goals
    go_ret
    refine ⟨?_, rfl⟩
    show Ending.returned (.int .i64 _) = _
    congr 2
    omega

set_option maxHeartbeats 1000000 in
theorem demerits_s (b p : Int) (fl : Bool) (w : World) (b0 : 0 ≤ b) (b1 : b ≤ 10000) (p0 : -1000 ≤ p) (p1 : p ≤ 1000) :
    Calls Try.prog 86 #[.int .i64 b, .int .i64 p, .bool fl] w fun e w' => e = .returned (.int .i64 (dem b p fl)) ∧ w' = w := by
  have h1 := mul_b (show 0 ≤ 1 + b by omega) (show 1 + b ≤ 10001 by omega) (show 0 ≤ 1 + b by omega) (show 1 + b ≤ 10001 by omega)
  have m0 : IntKind.i64.wrap (1 + b) = 1 + b := IntWalk.i64_in _ (by omega)
  have m1 : IntKind.i64.wrap ((1 + b) * (1 + b)) = (1 + b) * (1 + b) := IntWalk.i64_in _ (by omega)
  by_cases e1 : 0 ≤ p
  · have h2 := mul_b (show 0 ≤ 1 + b + p by omega) (show 1 + b + p ≤ 11001 by omega) (show 0 ≤ 1 + b + p by omega) (show 1 + b + p ≤ 11001 by omega)
    have m2 : IntKind.i64.wrap (1 + b + p) = 1 + b + p := IntWalk.i64_in _ (by omega)
    have m3 : IntKind.i64.wrap ((1 + b + p) * (1 + b + p)) = (1 + b + p) * (1 + b + p) := IntWalk.i64_in _ (by omega)
    have m4 : IntKind.i64.wrap ((1 + b + p) * (1 + b + p) + 3000) = (1 + b + p) * (1 + b + p) + 3000 := IntWalk.i64_in _ (by omega)
    have hb : dem b p fl = (1 + b + p) * (1 + b + p) + (if fl then 3000 else 0) := by rw [dem, if_pos e1]
    rw [hb]
    rcases fl with _ | _
    all_goals
      go_enter Try.func86, Try.ntmps86
      go_wp2_with fail
      go_ret
      refine ⟨?_, rfl⟩
      show Ending.returned (.int .i64 _) = _
      congr 2
  by_cases e2 : -1000 < p
  · have h2 := mul_b (show 0 ≤ -p by omega) (show -p ≤ 1000 by omega) (show 0 ≤ -p by omega) (show -p ≤ 1000 by omega)
    rw [Int.neg_mul_neg] at h2
    have m2 : IntKind.i64.wrap (p * p) = p * p := IntWalk.i64_in _ (by omega)
    have m3 : IntKind.i64.wrap ((1 + b) * (1 + b) - p * p) = (1 + b) * (1 + b) - p * p := IntWalk.i64_in _ (by omega)
    have m4 : IntKind.i64.wrap ((1 + b) * (1 + b) - p * p + 3000) = (1 + b) * (1 + b) - p * p + 3000 := IntWalk.i64_in _ (by omega)
    have hb : dem b p fl = (1 + b) * (1 + b) - p * p + (if fl then 3000 else 0) := by rw [dem, if_neg e1, if_pos e2]
    rw [hb]
    rcases fl with _ | _
    all_goals
      go_enter Try.func86, Try.ntmps86
      go_wp2_with fail
      go_ret
      refine ⟨?_, rfl⟩
      show Ending.returned (.int .i64 _) = _
      congr 2
  · have m4 : IntKind.i64.wrap ((1 + b) * (1 + b) + 3000) = (1 + b) * (1 + b) + 3000 := IntWalk.i64_in _ (by omega)
    have hb : dem b p fl = (1 + b) * (1 + b) + (if fl then 3000 else 0) := by rw [dem, if_neg e1, if_neg e2]
    rw [hb]
    rcases fl with _ | _
    all_goals
      go_enter Try.func86, Try.ntmps86
      go_wp2_with fail
      go_ret
      refine ⟨?_, rfl⟩
      show Ending.returned (.int .i64 _) = _
      congr 2

theorem clampGlue_s (a b c : Int) (w : World) :
    Calls Try.prog 84 #[.agg #[.int .i64 a, .int .i64 b, .int .i64 c]] w fun e w' => e = .returned (.agg #[.int .i64 (cl a), .int .i64 (cl b), .int .i64 (cl c)]) ∧ Below w.heap.size w w' := by
  go_enter Try.func84, Try.ntmps84
  go_wp2_with fail
  all_goals
    (first | go_returns | (refine bodyPost_ret (by simp [results, Try.results84, go_sem, *]; try rfl) rfl ?_))
    refine ⟨?_, by (repeat' (first | (with_reducible exact Below.refl _ _) | (with_reducible assumption) | (with_reducible refine Below.alloc ?_ ?_ _) | (with_reducible refine Below.drew ?_) | (with_reducible refine below_drewN ?_ _) | (with_reducible refine Below.setCell ?_ ?_ _) | (with_reducible refine below_then ?_ ?_ (by with_reducible assumption)) | (with_reducible exact Nat.le_refl _) | go_size | (simp only [*]; done)))⟩
    first | rw [show cl a = a by unfold cl; omega] | rw [show cl a = 10000 by unfold cl; omega]
    first | rw [show cl b = b by unfold cl; omega] | rw [show cl b = 10000 by unfold cl; omega]
    first | rw [show cl c = c by unfold cl; omega] | rw [show cl c = 10000 by unfold cl; omega]
theorem cost_no1 {xs : List It} {a t : Nat} {d tol : Int} (h : lnK xs a t d = 4) : costOk xs a t d tol = false ∧ costV xs a t d tol = 0 := by
  have e : costOk xs a t d tol = false := by rw [costOk, h]; rfl
  exact ⟨e, by rw [costV, e]; rfl⟩
theorem cost_no2 {xs : List It} {a t : Nat} {d tol : Int} (h : tol < lnB xs a t d) : costOk xs a t d tol = false ∧ costV xs a t d tol = 0 := by
  have e : costOk xs a t d tol = false := by rw [costOk, decide_eq_false (by omega), Bool.and_false]
  exact ⟨e, by rw [costV, e]; rfl⟩
theorem cost_yes {xs : List It} {a t : Nat} {d tol : Int} (h : ¬ lnK xs a t d = 4) (h' : ¬ tol < lnB xs a t d) : costOk xs a t d tol = true ∧ costV xs a t d tol = dem (lnB xs a t d) (xs.getD t default).pen (flg xs a t) := by
  have e : costOk xs a t d tol = true := by rw [costOk, decide_eq_true (by omega), Bool.and_true]; simpa using h
  exact ⟨e, by rw [costV, e]; rfl⟩
theorem flg_zero (xs : List It) (t : Nat) : flg xs 0 t = false := rfl
theorem flg_succ {xs : List It} {k t : Nat} {u v : Bool} (hu : (xs.getD k default).fl = u) (hv : (xs.getD t default).fl = v) : flg xs (k + 1) t = (u && v) := by
  rw [flg, Nat.add_sub_cancel, hu, hv, decide_eq_true (by omega), Bool.true_and]

set_option maxHeartbeats 1000000 in
theorem fitGlue_s (a b c d : Int) (w : World) (a0 : 0 ≤ a) (a1 : a ≤ 10000) (b0 : 0 ≤ b) (b1 : b ≤ 10000) (c0 : 0 ≤ c) (c1 : c ≤ 10000) (d0 : 0 ≤ d) (d1 : d ≤ 10000) :
    Calls Try.prog 83 #[.agg #[.int .i64 a, .int .i64 b, .int .i64 c], .int .i64 d] w fun e w' => e = .returned (.tuple #[.int .i64 (fitK a c d), .int .i64 (fitB a b c d)]) ∧ Below w.heap.size w w' := by
  have hk1 : d - a = 0 → fitK a c d = 1 ∧ fitB a b c d = 0 := fun h => ⟨by rw [fitK, if_pos h], by rw [fitB, if_pos h]⟩
  have hk2 : ¬ d - a = 0 → 0 < d - a → fitK a c d = 2 ∧ fitB a b c d = badP (d - a) b := fun h h' => ⟨by rw [fitK, if_neg h, if_pos h'], by rw [fitB, if_neg h, if_pos h']⟩
  have hk3 : ¬ d - a = 0 → ¬ 0 < d - a → -(d - a) ≤ c → fitK a c d = 3 ∧ fitB a b c d = badP (-(d - a)) c := fun h h' h3 => ⟨by rw [fitK, if_neg h, if_neg h', if_pos h3], by rw [fitB, if_neg h, if_neg h', if_pos h3]⟩
  have hk4 : ¬ d - a = 0 → ¬ 0 < d - a → ¬ -(d - a) ≤ c → fitK a c d = 4 ∧ fitB a b c d = 10000 := fun h h' h3 => ⟨by rw [fitK, if_neg h, if_neg h', if_neg h3], by rw [fitB, if_neg h, if_neg h', if_neg h3]⟩
  have HK1 := Lib.hid hk1
  have HK2 := Lib.hid hk2
  have HK3 := Lib.hid hk3
  have HK4 := Lib.hid hk4
  clear hk1 hk2 hk3 hk4
  obtain ⟨D, hD⟩ : ∃ D, d - a = D := ⟨_, rfl⟩
  have hDb : -10000 ≤ D ∧ D ≤ 10000 := by omega
  obtain ⟨D0, D1⟩ := hDb
  rw [hD] at HK1 HK2 HK3 HK4
  have mD : IntKind.i64.wrap (d - a) = D := by rw [hD]; exact IntWalk.i64_in _ (by omega)
  have g0 := Blk.new w 76 #[.int .i64 a, .int .i64 b, .int .i64 c]
  clear hD
  go_enter Try.func83, Try.ntmps83
  have plt := g0.lt
  have pc0 := g0.cell 0; have pf0 := g0.frozen 0
  have pc1 := g0.cell 1; have pf1 := g0.frozen 1
  have pc2 := g0.cell 2; have pf2 := g0.frozen 2
  simp only [List.getElem?_toArray, List.getElem?_cons_zero, List.getElem?_cons_succ] at pc0 pc1 pc2
  have mN : IntKind.i64.wrap (-D) = -D := IntWalk.i64_in _ (by omega)
  by_cases e1 : D = 0
  · obtain ⟨k1, k2⟩ := HK1.out e1
    have K1 := Lib.hid k1
    have K2 := Lib.hid k2
    clear k1 k2
    go_wp2_with fail
    (first | go_returns | (refine bodyPost_ret (by simp [results, Try.results83, go_sem, *]; try rfl) rfl ?_))
    exact ⟨by rw [K1.out, K2.out]; rfl, by (repeat' (first | (with_reducible exact Below.refl _ _) | (with_reducible assumption) | (with_reducible refine Below.alloc ?_ ?_ _) | (with_reducible refine Below.drew ?_) | (with_reducible refine below_drewN ?_ _) | (with_reducible refine Below.setCell ?_ ?_ _) | (with_reducible refine below_then ?_ ?_ (by with_reducible assumption)) | (with_reducible exact Nat.le_refl _) | go_size | (simp only [*]; done)))⟩
  by_cases e2 : 0 < D
  · obtain ⟨k1, k2⟩ := HK2.out e1 (by omega)
    have K1 := Lib.hid k1
    have K2 := Lib.hid k2
    clear k1 k2
    go_wp2_with fail
    ((with_reducible refine (badness_s _ _ _ (by omega) (by omega) b0 b1).mono ?_); rintro e w' ⟨rfl, rfl⟩)
    go_wp2_with fail
    (first | go_returns | (refine bodyPost_ret (by simp [results, Try.results83, go_sem, *]; try rfl) rfl ?_))
    exact ⟨by rw [K1.out, K2.out]; rfl, by (repeat' (first | (with_reducible exact Below.refl _ _) | (with_reducible assumption) | (with_reducible refine Below.alloc ?_ ?_ _) | (with_reducible refine Below.drew ?_) | (with_reducible refine below_drewN ?_ _) | (with_reducible refine Below.setCell ?_ ?_ _) | (with_reducible refine below_then ?_ ?_ (by with_reducible assumption)) | (with_reducible exact Nat.le_refl _) | go_size | (simp only [*]; done)))⟩
  by_cases e3 : c < -D
  · obtain ⟨k1, k2⟩ := HK4.out e1 (by omega) (by omega)
    have K1 := Lib.hid k1
    have K2 := Lib.hid k2
    clear k1 k2
    go_wp2_with fail
    (first | go_returns | (refine bodyPost_ret (by simp [results, Try.results83, go_sem, *]; try rfl) rfl ?_))
    exact ⟨by rw [K1.out, K2.out]; rfl, by (repeat' (first | (with_reducible exact Below.refl _ _) | (with_reducible assumption) | (with_reducible refine Below.alloc ?_ ?_ _) | (with_reducible refine Below.drew ?_) | (with_reducible refine below_drewN ?_ _) | (with_reducible refine Below.setCell ?_ ?_ _) | (with_reducible refine below_then ?_ ?_ (by with_reducible assumption)) | (with_reducible exact Nat.le_refl _) | go_size | (simp only [*]; done)))⟩
  · obtain ⟨k1, k2⟩ := HK3.out e1 (by omega) (by omega)
    have K1 := Lib.hid k1
    have K2 := Lib.hid k2
    clear k1 k2
    go_wp2_with fail
    ((with_reducible refine (badness_s _ _ _ (by omega) (by omega) c0 c1).mono ?_); rintro e w' ⟨rfl, rfl⟩)
    go_wp2_with fail
    (first | go_returns | (refine bodyPost_ret (by simp [results, Try.results83, go_sem, *]; try rfl) rfl ?_))
    exact ⟨by rw [K1.out, K2.out]; rfl, by (repeat' (first | (with_reducible exact Below.refl _ _) | (with_reducible assumption) | (with_reducible refine Below.alloc ?_ ?_ _) | (with_reducible refine Below.drew ?_) | (with_reducible refine below_drewN ?_ _) | (with_reducible refine Below.setCell ?_ ?_ _) | (with_reducible refine below_then ?_ ?_ (by with_reducible assumption)) | (with_reducible exact Nat.le_refl _) | go_size | (simp only [*]; done)))⟩

set_option maxRecDepth 100000 in
set_option maxHeartbeats 4000000 in
theorem lineCost_s (A : Option Addr) (n cap a t : Nat) (f d tol : Int) (xs : List It) (w : World) (hok : itemsOk xs = true) (hn : xs.length = n) (hF : noF xs a t = true) (hf : f + 1 = (a : Int)) (ha : a ≤ t) (ht : t < n) (hr : Row w w.heap.size 6 A n (itc xs)) (d0 : 1 ≤ d) (d1 : d ≤ 10000) :
    Calls Try.prog 63 #[.slice A n cap, .int .i64 f, .int .i64 (t : Int), .int .i64 d, .int .i64 tol] w fun e w' => e = .returned (.tuple #[.int .i64 (costV xs a t d tol), .bool (costOk xs a t d tol)]) ∧ Below w.heap.size w w' := by
  have hmn := (itemsOk_len hok hn).2
  obtain ⟨B0, B1⟩ := lnB_b (a := a) hok hn ht (show 0 ≤ d by omega) d1
  obtain ⟨b, off, rfl, hb, hc⟩ := id hr (by omega)
  obtain ⟨y, hy⟩ : ∃ y, xs.getD t default = y := ⟨_, rfl⟩
  obtain ⟨_, _, _, ⟨p0, p1⟩, _⟩ := itemOk_b (itemsOk_at hok hn ht hy)
  obtain ⟨⟨x0, x1⟩, ⟨y0, y1⟩, z0, z1⟩ := lg_b (a := a) hok hn ht
  obtain ⟨ax0, ax1⟩ := cl_b x0
  obtain ⟨ay0, ay1⟩ := cl_b y0
  obtain ⟨az0, az1⟩ := cl_b z0
  have HF := Lib.hid hF
  clear hF x0 x1 y0 y1 z0 z1
  have t4 := hc t 4 ht (by omega)
  have t5 := hc t 5 ht (by omega)
  simp only [itc, itv, hy] at t4 t5
  have hyes : ∀ F, flg xs a t = F → ¬ lnK xs a t d = 4 → ¬ tol < lnB xs a t d → costOk xs a t d tol = true ∧ costV xs a t d tol = dem (lnB xs a t d) y.pen F := fun F hF h1 h2 => by
    have := cost_yes h1 h2
    rwa [hy, hF] at this
  have HYES := Lib.hid hyes
  have HNO1 := Lib.hid (fun h : lnK xs a t d = 4 => cost_no1 (tol := tol) h)
  have HNO2 := Lib.hid (fun h : tol < lnB xs a t d => cost_no2 h)
  have HY := Lib.hid hy
  have HOK := Lib.hid hok
  have HN := Lib.hid hn
  have HR := Lib.hid hr
  have HC := Lib.hid hc
  have T4 := Lib.hid t4
  have T5 := Lib.hid t5
  have hmc : off + n * 6 ≤ off + n * 6 := Nat.le_refl _
  have htn : (t : Int) < (n : Int) := by omega
  clear hyes hok hn hr hy hc t4 t5 hmc
  go_enter Try.func63, Try.ntmps63
  go_wp2_with fail
  ((with_reducible refine (lineGlue_s _ _ _ _ _ _ xs _ HOK.out HN.out hf ha ht HF.out ?_).mono ?_); (exact HR.out); rintro e w1 ⟨rfl, hb1⟩)
  go_wp2_with fail
  ((with_reducible refine (clampGlue_s _ _ _ _).mono ?_); rintro e w2 ⟨rfl, hb2⟩)
  go_wp2_with fail
  ((with_reducible refine (fitGlue_s _ _ _ _ _ ax0 ax1 ay0 ay1 az0 az1 (by omega) d1).mono ?_); rintro e w3 ⟨rfl, hb3⟩)
  rw [show fitK (cl (lgW xs a t)) (cl (lgH xs a t)) d = lnK xs a t d from rfl, show fitB (cl (lgW xs a t)) (cl (lgS xs a t)) (cl (lgH xs a t)) d = lnB xs a t d from rfl]
  have hB := (below_then (Nat.le_refl _) (below_then (Nat.le_refl _) hb1 hb2) hb3)
  obtain ⟨K, hK⟩ : ∃ K, lnK xs a t d = K := ⟨_, rfl⟩
  obtain ⟨B, hBB⟩ : ∃ B, lnB xs a t d = B := ⟨_, rfl⟩
  rw [hK] at HYES HNO1 ⊢
  rw [hBB] at HYES HNO2 B0 B1 ⊢
  clear hK hBB
  by_cases e1 : K = 4
  · obtain ⟨k1, k2⟩ := HNO1.out e1
    have K1 := Lib.hid k1
    have K2 := Lib.hid k2
    clear k1 k2
    go_wp2_with fail
    (first | go_returns | (refine bodyPost_ret (by simp [results, Try.results63, go_sem, *]; try rfl) rfl ?_))
    exact ⟨by rw [K1.out, K2.out]; rfl, hB⟩
  have hKf : (K == 4) = false := by simpa using e1
  by_cases e2 : tol < B
  · obtain ⟨k1, k2⟩ := HNO2.out e2
    have K1 := Lib.hid k1
    have K2 := Lib.hid k2
    clear k1 k2
    go_wp2_with fail
    (first | go_returns | (refine bodyPost_ret (by simp [results, Try.results63, go_sem, *]; try rfl) rfl ?_))
    exact ⟨by rw [K1.out, K2.out]; rfl, hB⟩
  have hBt : decide (tol < B) = false := decide_eq_false e2
  have c4 : w3.cell? ⟨b, off + t * 6 + 4, none⟩ = _ := (hB.cell (p := ⟨b, off + t * 6 + 4, none⟩) hb).trans T4.out
  have c5 : w3.cell? ⟨b, off + t * 6 + 5, none⟩ = _ := (hB.cell (p := ⟨b, off + t * 6 + 5, none⟩) hb).trans T5.out
  rcases a with _ | k
  · obtain ⟨k1, k2⟩ := HYES.out false (flg_zero _ _) (by omega) (by omega)
    have K1 := Lib.hid k1
    have K2 := Lib.hid k2
    obtain rfl : f = -1 := by omega
    clear k1 k2
    go_wp2_with fail
    go_quiet ((go_at_call 86; exact Calls.quiet_of_same (demerits_s _ _ _ _ B0 B1 p0 p1)))
    go_wp2_with fail
    (first | go_returns | (refine bodyPost_ret (by simp [results, Try.results63, go_sem, *]; try rfl) rfl ?_))
    exact ⟨by rw [K1.out, K2.out]; rfl, below_drewN hB _⟩
  have hkn : (k : Int) < (n : Int) := by omega
  obtain ⟨x, hx⟩ : ∃ x, xs.getD k default = x := ⟨_, rfl⟩
  have t6 := HC.out k 5 (by omega) (by omega)
  simp only [itc, itv, hx] at t6
  have c6 : w3.cell? ⟨b, off + k * 6 + 5, none⟩ = _ := (hB.cell (p := ⟨b, off + k * 6 + 5, none⟩) hb).trans t6
  obtain rfl : f = (k : Int) := by omega
  have hk0 : decide ((0 : Int) ≤ (k : Int)) = true := decide_eq_true (by omega)
  clear t6
  rcases hu : x.fl with _ | _
  · obtain ⟨k1, k2⟩ := HYES.out (false && y.fl) (flg_succ (by rw [hx, hu]) (by rw [HY.out])) (by omega) (by omega)
    have K1 := Lib.hid k1
    have K2 := Lib.hid k2
    rw [hu] at c6
    clear k1 k2 hx hu
    go_wp2_with fail
    go_quiet ((go_at_call 86; exact Calls.quiet_of_same (demerits_s _ _ _ _ B0 B1 p0 p1)))
    go_wp2_with fail
    (first | go_returns | (refine bodyPost_ret (by simp [results, Try.results63, go_sem, *]; try rfl) rfl ?_))
    exact ⟨by rw [K1.out, K2.out, Bool.false_and]; rfl, below_drewN hB _⟩
  rcases hv : y.fl with _ | _
  all_goals
    obtain ⟨k1, k2⟩ := HYES.out (true && y.fl) (flg_succ (by rw [hx, hu]) (by rw [HY.out])) (by omega) (by omega)
    rw [hv, Bool.true_and] at k2
    have K1 := Lib.hid k1
    have K2 := Lib.hid k2
    rw [hu] at c6
    rw [hv] at c5
    clear k1 k2 hx hu hv
    go_wp2_with fail
    go_quiet ((go_at_call 86; exact Calls.quiet_of_same (demerits_s _ _ _ _ B0 B1 p0 p1)))
    go_wp2_with fail
    (first | go_returns | (refine bodyPost_ret (by simp [results, Try.results63, go_sem, *]; try rfl) rfl ?_))
    exact ⟨by rw [K1.out, K2.out]; rfl, below_drewN hB _⟩
end Go.Proofs.Ytkmipgekmbngcaa
