/- A bytes.Buffer in a struct's fields: grow, where there is an array. -/
import Derived.Test.YtejkimhmpnogkaaDoorBBF4
namespace Go.Proofs.YtejkimhmpnogkaaDoor
open Go Go.RowKit

section
variable {w : World} {P k : Nat} {T : TypeId} {cs : Array Value} {v : Value} {o : Nat} {r : Int} {l : List UInt8}

set_option maxRecDepth 100000 in
set_option maxHeartbeats 2000000 in
theorem grow_some (n g cap : Nat) (h : BufAt w P k T cs (.slice (some ⟨g, 0, none⟩) (o + l.length) cap) o r l) (h0 : ¬ o + l.length + n ≤ cap) (hs : o + l.length + n ≤ 1099511627776) (hB : l.length = 0 → o = 0) :
    Calls Tryd.prog 65 #[.pointer (some ⟨P, k, none⟩), .int .i64 (n : Int)] w fun e w' => Grew w P k T cs (.slice (some ⟨g, 0, none⟩) (o + l.length) cap) l n e w' := by
  have HH := hid h
  have hP := hget_lt h.at_
  obtain ⟨a', cap', e1, b1, b2, _, b4⟩ := h.bounds
  injection e1 with e1 e2 e3
  subst e1 e3
  obtain ⟨g', hg, hgP, _, cur, k1, k2, k3, k4, k5⟩ := b4 _ rfl
  injection hg with hg
  subst hg
  have HK := hid k1
  have HK4 := hid k4
  clear h b4 e2 k1 k4
  generalize hm : l.length = m at *
  have HM := hid hm
  clear hm
  have hmb : (((m : Int) == 0) && ((o : Int) != 0)) = false := by
    by_cases hm0 : m = 0
    · rw [hB hm0]; simp
    · simp; omega
  have hoc0 : o < cap := by
    by_cases hm0 : m = 0
    · have := hB hm0; omega
    · omega
  have HB := hid hB
  clear hmb hB
  by_cases hm0 : m = 0
  · have hmc : ((m : Int) == 0) = true := beq_iff_eq.2 (by omega)
    have hmo : ((o : Int) != 0) = false := by have := HB.out hm0; simp [this]
    have HM0 := hid hm0
    clear hm0
    go_enter Tryd.func65, Tryd.ntmps65
    go_wp2_with fail
    refine (blen_any HH.out).mono ?_
    rintro e w1 ⟨rfl, hd⟩
    have H1 := hid (HH.out.dr hd)
    have HO : Hid (Out (BEx P (.slice (some ⟨g, 0, none⟩) (o + m) cap)) w w1) := hid (Out.of_dr hd)
    have HCUR : Hid (∃ cur, hget w1 g = some (.cells cur 5 (0, 0)) ∧ cap ≤ cur.size ∧ cur.size ≤ 9223372036854775807 ∧ (cur.toList.drop o).take m = u8s l) := hid (by obtain ⟨q, rfl⟩ := hd; exact ⟨cur, HK.out, k2, k3, HK4.out⟩)
    have hsz : w.heap.size = w1.heap.size := by rw [hd.heap]
    clear hd HH HK HK4 k2 k3
    have c0 := H1.out.c0
    have c1 := H1.out.c1
    have f := H1.out.free
    simp only [HM.out] at c0 ⊢
    go_wp2_with fail
    refine (try_no (o := o) (l := l) n (some ⟨g, 0, none⟩) cap (by rw [HM.out]; exact H1.out) (by simp only [HM.out]; omega) (by omega)).mono ?_
    rintro e w2 ⟨rfl, rfl⟩
    have c0 := H1.out.c0
    have c1 := H1.out.c1
    have f := H1.out.free
    obtain ⟨cur, hc2, hc3, hc4, hc5⟩ := HCUR.out
    have HC2 := hid hc2
    have HC5 := hid hc5
    clear hc2 hc5
    have hle : (o : Int) ≤ (o : Int) + (m : Int) := by omega
    have hcne : ¬ cap = o := by omega
    by_cases hcp : (n : Int) ≤ (cap : Int) / 2 - (m : Int)
    · have d1 : decide ((n : Int) ≤ (cap : Int) / 2 - (m : Int)) = true := decide_eq_true hcp
      go_wp2_with fail
      refine still_tail 13 (by kernel_rfl) (by kernel_rfl) ?_
      simp only [List.take_succ_cons, List.take_zero, List.drop_succ_cons, List.drop_zero]
      repeat (first | (refine wpStill_step (fun K hK => ?_); go_simp; refine hK _ ?_; clear hK K; try go_ints))
      refine wpStill_nil ?_
      refine wp_copy_sl (by rfl) _ _ _ _ (by rfl) Tryd.underlying57 (by kernel_rfl) _ _ _ _ _ _ (by rfl) (by rfl) g 0 cur (w := w1.drew) HC2.out l ?_ (fun hl => ⟨rfl, g, o, rfl, fun j hj => ?_⟩) ?_ ?_
      · simp only [HM.out]; first | exact (Nat.min_eq_left (by omega)).symm | rfl
      · exact own_cell (w := w1.drew) HC2.out (by rw [HM.out]; exact HC5.out) hj
      · simp only [HM.out]; omega
      have hfit : 0 + (l).length ≤ cur.size := by simp only [HM.out]; omega
      have s1 := ovr_size (cur := cur) (off := 0) (l := l) hfit
      have s2 := ovr_new (cur := cur) (off := 0) (l := l) hfit
      have PP := hid ((blk_other (w := w1.drew) (b := g) (o := .cells (ovr cur 0 (l)) 5 (0, 0)) P (by omega)).trans H1.out.at_)
      have PG := hid (blk_heap (w := w1.drew) (b := g) (o := .cells (ovr cur 0 (l)) 5 (0, 0)) (hget_lt HC2.out))
      have PO := hid ((HO.out.drew).blk (b := g) (.inl (.inr rfl)) (.cells (ovr cur 0 (l)) 5 (0, 0)))
      have S1 := hid s1
      have S2 := hid s2
      clear s1 s2 c0 c1 f hfit
      generalize blk w1.drew g (.cells (ovr cur 0 (l)) 5 (0, 0)) = w3 at *
      have c0 : w3.cell? ⟨P, k, none⟩ = some (.slice (some ⟨g, 0, none⟩) (o + m) cap) := by rw [cell_at PP.out, bset_at0 _ _ _ _ _ H1.out.fits]
      have c1 : w3.cell? ⟨P, k + 1, none⟩ = some (.int .i64 (o : Int)) := by rw [cell_at PP.out, bset_at1 _ _ _ _ _ H1.out.fits]
      have f : ∀ j, w3.frozen? ⟨P, j, none⟩ = false := fun j => free_at PP.out j
      go_wp2_with fail
      go_ret
      refine ⟨.slice (some ⟨g, 0, none⟩) (m + n) cap, 0, _, ?_, grown_one (v' := .slice (some ⟨g, 0, none⟩) (m + n) cap) PP.out H1.out.fits (.inr ⟨g, cap, ovr cur 0 (l), by simp only [HM.out, Nat.zero_add], PG.out, by simp only [HM.out]; omega, by rw [S1.out]; omega, by rw [S1.out]; omega, S2.out, by omega⟩) (by intro e; injection e with e; exact hgP e), ?_, .inl rfl, rfl⟩
      · simp only [HM.out, Nat.zero_add]; rfl
      · exact (PO.out.setCell (p := ⟨P, k + 1, none⟩) (.inl (.inl rfl)) _).setCell (p := ⟨P, k, none⟩) (.inl (.inl rfl)) _
    · have d1 : decide ((n : Int) ≤ (cap : Int) / 2 - (m : Int)) = false := decide_eq_false hcp
      go_wp2_with fail
      have lc0 := later_cell c0
      have lc1 := later_cell c1
      have E0 : Hid ((o : Int) + (n : Int) = ((o + n : Nat) : Int)) := hid (by omega)
      have hgs : ∀ x : Later w1, Calls Tryd.prog 76 #[.slice (some ⟨g, o, none⟩) (m) (cap - o), .int .i64 ((o : Int) + (n : Int))] x.w' fun e w'' => ∃ u, e = .returned u ∧ Below x.w'.heap.size x.w' w'' ∧ (∃ G cap2 cur2, u = .slice (some ⟨G, 0, none⟩) (m) cap2 ∧ w1.heap.size ≤ G ∧ hget w'' G = some (.cells cur2 5 (0, 0)) ∧ m + n ≤ cap2 ∧ cap2 ≤ cur2.size ∧ cur2.size ≤ maxLen ∧ cur2.toList.take (m) = u8s (l)) := fun x => by
        rw [E0.out]
        refine (gslice_any _ (l) (some ⟨g, o, none⟩) (cap - o) (by simp only [HM.out]) (by simp only [HM.out]; omega) (by omega) (o + n) (by omega) (by simp only [HM.out]; omega) x.w' (fun _ => ⟨g, o, rfl, fun j hj => ?_⟩)).mono fun e w'' ⟨G, cap2, cur2, he, g1, g2, g3, g4, g5, g6, g7⟩ => ⟨_, he, g7, G, cap2, cur2, by simp only [HM.out], Nat.le_trans x.h.size g1, g2, by simp only [HM.out] at g3; omega, g4, g5, by simp only [HM.out] at g6; exact g6⟩
        exact later_cell (own_cell HC2.out (by rw [HM.out]; exact HC5.out) hj) x
      have HGS := hid hgs
      clear hgs
      refine wp_region_gho_last 19 [16] (fun _ u x => ∃ G cap2 cur2, u = .slice (some ⟨G, 0, none⟩) (m) cap2 ∧ w1.heap.size ≤ G ∧ hget x G = some (.cells cur2 5 (0, 0)) ∧ m + n ≤ cap2 ∧ cap2 ≤ cur2.size ∧ cur2.size ≤ maxLen ∧ cur2.toList.take (m) = u8s (l)) (by kernel_rfl) (by kernel_rfl) (by kernel_rfl) (by rfl) (by kernel_rfl) (by rfl) (fun _ u w w' ⟨G, cap, cur, h1, h2, h3, h4⟩ hb => ⟨G, cap, cur, h1, h2, keepB hb h3, h4⟩) ?_
      simp only [List.take_succ_cons, List.take_zero]
      repeat (first | (refine wpGho_plain (by kernel_rfl) (by decide) (by rfl) (by rfl) (fun K hK => ?_); go_simp; refine hK _ ?_; clear hK K; try go_ints))
      refine wpGho_make (by kernel_rfl) (by decide) (by rfl) (by rfl) (by rfl) (fun K hK => ?_)
      go_simp
      refine ⟨fun x => ⟨rfl, (HGS.out x).mono fun e w'' ⟨u, he, hb, G, cap2, cur2, x1, x2, x3, x4⟩ => ⟨u, he, hb, G, cap2, x1, x2, cur2, x3, x4⟩⟩, hK _ ?_⟩
      clear hK K
      repeat (first | (refine wpGho_plain (by kernel_rfl) (by decide) (by rfl) (by rfl) (fun K hK => ?_); go_simp; refine hK _ ?_; clear hK K; try go_ints))
      refine wpGho_nil ?_
      intro gg wM hwM hR
      obtain ⟨⟨w8, hM⟩, e8⟩ := hwM
      change wM = w8 at e8
      subst e8
      obtain ⟨G, cap2, cur2, hb8, hG, hc8, q1, q2, q3, q4⟩ := hR 16 (by decide)
      rw [show ∀ a, over _ [16] gg a = Act.put a (some 92) (gg 16) from fun _ => rfl, hb8]
      simp only [Act.put, List.setIfInBounds_toArray, List.set_cons_zero, List.set_cons_succ]
      have HM1 := hid (H1.out.below hM)
      have HOM := hid (HO.out.then (Out.of_below hM))
      have HC8 := hid hc8
      have HQ4 := hid q4
      clear lc0 lc1 c0 c1 f hM hb8 hc8 hR q4
      have c0 := HM1.out.c0
      have c1 := HM1.out.c1
      have f := HM1.out.free
      unfold maxLen at q3
      go_wp2_with fail
      go_ret
      have hGP : G ≠ P := by have := hget_lt H1.out.at_; omega
      refine ⟨.slice (some ⟨G, 0, none⟩) (m + n) cap2, 0, _, ?_, grown_two (n := n) (x := .slice (some ⟨G, 0, none⟩) (m) cap2) (v' := .slice (some ⟨G, 0, none⟩) (m + n) cap2) HM1.out.at_ HM1.out.fits (.inr ⟨G, cap2, cur2, by simp only [HM.out, Nat.zero_add], HC8.out, by simp only [HM.out, Nat.zero_add]; exact q1, q2, q3, by rw [List.drop_zero]; simp only [HM.out]; exact HQ4.out, by omega⟩) (by intro e; injection e with e; exact hGP e), ?_, .inr ⟨G, rfl, by omega⟩, rfl⟩
      · simp only [HM.out, Nat.zero_add]; rfl
      · exact ((HOM.out.setCell (p := ⟨P, k, none⟩) (.inl (.inl rfl)) _).setCell (p := ⟨P, k + 1, none⟩) (.inl (.inl rfl)) _).setCell (p := ⟨P, k, none⟩) (.inl (.inl rfl)) _
  · have hmc : ((m : Int) == 0) = false := beq_eq_false_iff_ne.2 (by omega)
    go_enter Tryd.func65, Tryd.ntmps65
    go_wp2_with fail
    refine (blen_any HH.out).mono ?_
    rintro e w1 ⟨rfl, hd⟩
    have H1 := hid (HH.out.dr hd)
    have HO : Hid (Out (BEx P (.slice (some ⟨g, 0, none⟩) (o + m) cap)) w w1) := hid (Out.of_dr hd)
    have HCUR : Hid (∃ cur, hget w1 g = some (.cells cur 5 (0, 0)) ∧ cap ≤ cur.size ∧ cur.size ≤ 9223372036854775807 ∧ (cur.toList.drop o).take m = u8s l) := hid (by obtain ⟨q, rfl⟩ := hd; exact ⟨cur, HK.out, k2, k3, HK4.out⟩)
    have hsz : w.heap.size = w1.heap.size := by rw [hd.heap]
    clear hd HH HK HK4 k2 k3
    have c0 := H1.out.c0
    have c1 := H1.out.c1
    have f := H1.out.free
    simp only [HM.out] at c0 ⊢
    go_wp2_with fail
    refine (try_no (o := o) (l := l) n (some ⟨g, 0, none⟩) cap (by rw [HM.out]; exact H1.out) (by simp only [HM.out]; omega) (by omega)).mono ?_
    rintro e w2 ⟨rfl, rfl⟩
    have c0 := H1.out.c0
    have c1 := H1.out.c1
    have f := H1.out.free
    obtain ⟨cur, hc2, hc3, hc4, hc5⟩ := HCUR.out
    have HC2 := hid hc2
    have HC5 := hid hc5
    clear hc2 hc5
    have hle : (o : Int) ≤ (o : Int) + (m : Int) := by omega
    have hcne : ¬ cap = o := by omega
    by_cases hcp : (n : Int) ≤ (cap : Int) / 2 - (m : Int)
    · have d1 : decide ((n : Int) ≤ (cap : Int) / 2 - (m : Int)) = true := decide_eq_true hcp
      go_wp2_with fail
      refine still_tail 13 (by kernel_rfl) (by kernel_rfl) ?_
      simp only [List.take_succ_cons, List.take_zero, List.drop_succ_cons, List.drop_zero]
      repeat (first | (refine wpStill_step (fun K hK => ?_); go_simp; refine hK _ ?_; clear hK K; try go_ints))
      refine wpStill_nil ?_
      refine wp_copy_sl (by rfl) _ _ _ _ (by rfl) Tryd.underlying57 (by kernel_rfl) _ _ _ _ _ _ (by rfl) (by rfl) g 0 cur (w := w1.drew) HC2.out l ?_ (fun hl => ⟨rfl, g, o, rfl, fun j hj => ?_⟩) ?_ ?_
      · simp only [HM.out]; first | exact (Nat.min_eq_left (by omega)).symm | rfl
      · exact own_cell (w := w1.drew) HC2.out (by rw [HM.out]; exact HC5.out) hj
      · simp only [HM.out]; omega
      have hfit : 0 + (l).length ≤ cur.size := by simp only [HM.out]; omega
      have s1 := ovr_size (cur := cur) (off := 0) (l := l) hfit
      have s2 := ovr_new (cur := cur) (off := 0) (l := l) hfit
      have PP := hid ((blk_other (w := w1.drew) (b := g) (o := .cells (ovr cur 0 (l)) 5 (0, 0)) P (by omega)).trans H1.out.at_)
      have PG := hid (blk_heap (w := w1.drew) (b := g) (o := .cells (ovr cur 0 (l)) 5 (0, 0)) (hget_lt HC2.out))
      have PO := hid ((HO.out.drew).blk (b := g) (.inl (.inr rfl)) (.cells (ovr cur 0 (l)) 5 (0, 0)))
      have S1 := hid s1
      have S2 := hid s2
      clear s1 s2 c0 c1 f hfit
      generalize blk w1.drew g (.cells (ovr cur 0 (l)) 5 (0, 0)) = w3 at *
      have c0 : w3.cell? ⟨P, k, none⟩ = some (.slice (some ⟨g, 0, none⟩) (o + m) cap) := by rw [cell_at PP.out, bset_at0 _ _ _ _ _ H1.out.fits]
      have c1 : w3.cell? ⟨P, k + 1, none⟩ = some (.int .i64 (o : Int)) := by rw [cell_at PP.out, bset_at1 _ _ _ _ _ H1.out.fits]
      have f : ∀ j, w3.frozen? ⟨P, j, none⟩ = false := fun j => free_at PP.out j
      go_wp2_with fail
      go_ret
      refine ⟨.slice (some ⟨g, 0, none⟩) (m + n) cap, 0, _, ?_, grown_one (v' := .slice (some ⟨g, 0, none⟩) (m + n) cap) PP.out H1.out.fits (.inr ⟨g, cap, ovr cur 0 (l), by simp only [HM.out, Nat.zero_add], PG.out, by simp only [HM.out]; omega, by rw [S1.out]; omega, by rw [S1.out]; omega, S2.out, by omega⟩) (by intro e; injection e with e; exact hgP e), ?_, .inl rfl, rfl⟩
      · simp only [HM.out, Nat.zero_add]; rfl
      · exact (PO.out.setCell (p := ⟨P, k + 1, none⟩) (.inl (.inl rfl)) _).setCell (p := ⟨P, k, none⟩) (.inl (.inl rfl)) _
    · have d1 : decide ((n : Int) ≤ (cap : Int) / 2 - (m : Int)) = false := decide_eq_false hcp
      go_wp2_with fail
      have lc0 := later_cell c0
      have lc1 := later_cell c1
      have E0 : Hid ((o : Int) + (n : Int) = ((o + n : Nat) : Int)) := hid (by omega)
      have hgs : ∀ x : Later w1, Calls Tryd.prog 76 #[.slice (some ⟨g, o, none⟩) (m) (cap - o), .int .i64 ((o : Int) + (n : Int))] x.w' fun e w'' => ∃ u, e = .returned u ∧ Below x.w'.heap.size x.w' w'' ∧ (∃ G cap2 cur2, u = .slice (some ⟨G, 0, none⟩) (m) cap2 ∧ w1.heap.size ≤ G ∧ hget w'' G = some (.cells cur2 5 (0, 0)) ∧ m + n ≤ cap2 ∧ cap2 ≤ cur2.size ∧ cur2.size ≤ maxLen ∧ cur2.toList.take (m) = u8s (l)) := fun x => by
        rw [E0.out]
        refine (gslice_any _ (l) (some ⟨g, o, none⟩) (cap - o) (by simp only [HM.out]) (by simp only [HM.out]; omega) (by omega) (o + n) (by omega) (by simp only [HM.out]; omega) x.w' (fun _ => ⟨g, o, rfl, fun j hj => ?_⟩)).mono fun e w'' ⟨G, cap2, cur2, he, g1, g2, g3, g4, g5, g6, g7⟩ => ⟨_, he, g7, G, cap2, cur2, by simp only [HM.out], Nat.le_trans x.h.size g1, g2, by simp only [HM.out] at g3; omega, g4, g5, by simp only [HM.out] at g6; exact g6⟩
        exact later_cell (own_cell HC2.out (by rw [HM.out]; exact HC5.out) hj) x
      have HGS := hid hgs
      clear hgs
      refine wp_region_gho_last 19 [16] (fun _ u x => ∃ G cap2 cur2, u = .slice (some ⟨G, 0, none⟩) (m) cap2 ∧ w1.heap.size ≤ G ∧ hget x G = some (.cells cur2 5 (0, 0)) ∧ m + n ≤ cap2 ∧ cap2 ≤ cur2.size ∧ cur2.size ≤ maxLen ∧ cur2.toList.take (m) = u8s (l)) (by kernel_rfl) (by kernel_rfl) (by kernel_rfl) (by rfl) (by kernel_rfl) (by rfl) (fun _ u w w' ⟨G, cap, cur, h1, h2, h3, h4⟩ hb => ⟨G, cap, cur, h1, h2, keepB hb h3, h4⟩) ?_
      simp only [List.take_succ_cons, List.take_zero]
      repeat (first | (refine wpGho_plain (by kernel_rfl) (by decide) (by rfl) (by rfl) (fun K hK => ?_); go_simp; refine hK _ ?_; clear hK K; try go_ints))
      refine wpGho_make (by kernel_rfl) (by decide) (by rfl) (by rfl) (by rfl) (fun K hK => ?_)
      go_simp
      refine ⟨fun x => ⟨rfl, (HGS.out x).mono fun e w'' ⟨u, he, hb, G, cap2, cur2, x1, x2, x3, x4⟩ => ⟨u, he, hb, G, cap2, x1, x2, cur2, x3, x4⟩⟩, hK _ ?_⟩
      clear hK K
      repeat (first | (refine wpGho_plain (by kernel_rfl) (by decide) (by rfl) (by rfl) (fun K hK => ?_); go_simp; refine hK _ ?_; clear hK K; try go_ints))
      refine wpGho_nil ?_
      intro gg wM hwM hR
      obtain ⟨⟨w8, hM⟩, e8⟩ := hwM
      change wM = w8 at e8
      subst e8
      obtain ⟨G, cap2, cur2, hb8, hG, hc8, q1, q2, q3, q4⟩ := hR 16 (by decide)
      rw [show ∀ a, over _ [16] gg a = Act.put a (some 92) (gg 16) from fun _ => rfl, hb8]
      simp only [Act.put, List.setIfInBounds_toArray, List.set_cons_zero, List.set_cons_succ]
      have HM1 := hid (H1.out.below hM)
      have HOM := hid (HO.out.then (Out.of_below hM))
      have HC8 := hid hc8
      have HQ4 := hid q4
      clear lc0 lc1 c0 c1 f hM hb8 hc8 hR q4
      have c0 := HM1.out.c0
      have c1 := HM1.out.c1
      have f := HM1.out.free
      unfold maxLen at q3
      go_wp2_with fail
      go_ret
      have hGP : G ≠ P := by have := hget_lt H1.out.at_; omega
      refine ⟨.slice (some ⟨G, 0, none⟩) (m + n) cap2, 0, _, ?_, grown_two (n := n) (x := .slice (some ⟨G, 0, none⟩) (m) cap2) (v' := .slice (some ⟨G, 0, none⟩) (m + n) cap2) HM1.out.at_ HM1.out.fits (.inr ⟨G, cap2, cur2, by simp only [HM.out, Nat.zero_add], HC8.out, by simp only [HM.out, Nat.zero_add]; exact q1, q2, q3, by rw [List.drop_zero]; simp only [HM.out]; exact HQ4.out, by omega⟩) (by intro e; injection e with e; exact hGP e), ?_, .inr ⟨G, rfl, by omega⟩, rfl⟩
      · simp only [HM.out, Nat.zero_add]; rfl
      · exact ((HOM.out.setCell (p := ⟨P, k, none⟩) (.inl (.inl rfl)) _).setCell (p := ⟨P, k + 1, none⟩) (.inl (.inl rfl)) _).setCell (p := ⟨P, k, none⟩) (.inl (.inl rfl)) _

set_option maxRecDepth 100000 in
set_option maxHeartbeats 2000000 in
theorem grow_reset (n g cap : Nat) (h : BufAt w P k T cs (.slice (some ⟨g, 0, none⟩) o cap) o r []) (h0 : ¬ o + n ≤ cap) (hs : o + n ≤ 1099511627776) (ho : o ≠ 0) :
    Calls Tryd.prog 65 #[.pointer (some ⟨P, k, none⟩), .int .i64 (n : Int)] w fun e w' => Grew w P k T cs (.slice (some ⟨g, 0, none⟩) o cap) [] n e w' := by
  have HH := hid h
  have hP := hget_lt h.at_
  have hmo : ((o : Int) != 0) = true := by simp; omega
  obtain ⟨a', cap', e1, b1, b2, _, b4⟩ := h.bounds
  injection e1 with e1 e2 e3
  subst e1 e3
  obtain ⟨g', hg, hgP, _, cur, k1, k2, k3, k4, k5⟩ := b4 _ rfl
  injection hg with hg
  subst hg
  have HK := hid k1
  have HK2 := hid k2
  have HK3 := hid k3
  clear h b4 e2 k1 k4 k2 k3
  obtain ⟨m, hm⟩ : ∃ m : Nat, m = 0 := ⟨0, rfl⟩
  have HM : Hid (([] : List UInt8).length = m) := hid hm.symm
  have bl := blen_any HH.out
  rw [HM.out] at bl
  have BL := hid bl
  have hmc : ((m : Int) == 0) = true := beq_iff_eq.2 (by omega)
  have hm1 : m ≤ 0 := by omega
  have HMZ := hid hm
  clear hm bl
  go_enter Tryd.func65, Tryd.ntmps65
  go_wp2_with fail
  refine BL.out.mono ?_
  rintro e w0 ⟨rfl, hd⟩
  have H0 := hid (HH.out.dr hd)
  have hsz0 : w.heap.size = w0.heap.size := by rw [hd.heap]
  have HO0 : Hid (Out (BEx P (.slice (some ⟨g, 0, none⟩) o cap)) w w0) := hid (Out.of_dr hd)
  have HG0 : Hid (hget w0 g = some (.cells cur 5 (0, 0))) := hid (by obtain ⟨q, rfl⟩ := hd; exact HK.out)
  clear hd HK
  have c0 := H0.out.c0
  have c1 := H0.out.c1
  have f := H0.out.free
  go_wp2_with fail
  refine (breset_any (some ⟨g, 0, none⟩) cap H0.out).mono ?_
  rintro e w1 ⟨rfl, hb', ho1⟩
  have HCUR : Hid (∃ cur, hget w1 g = some (.cells cur 5 (0, 0)) ∧ cap ≤ cur.size ∧ cur.size ≤ 9223372036854775807 ∧ (cur.toList.drop 0).take 0 = u8s []) := hid ⟨cur, ho1.get HG0.out hgP, HK2.out, HK3.out, rfl⟩
  have HO := hid (HO0.out.trans ho1 fun j _ e => .inl e)
  have hsz : w.heap.size ≤ w1.heap.size := by rw [hsz0]; exact ho1.size
  have hsz1 := hid hsz
  obtain ⟨o', ho'⟩ : ∃ o' : Nat, o' = 0 := ⟨0, rfl⟩
  have hm := HMZ.out
  have H1 : Hid (BufAt w1 P k T cs (.slice (some ⟨g, 0, none⟩) (o' + m) cap) o' 0 []) := hid (by rw [ho', hm]; exact hb')
  have HCUR : Hid (∃ cur, hget w1 g = some (.cells cur 5 (0, 0)) ∧ cap ≤ cur.size ∧ cur.size ≤ 9223372036854775807 ∧ (cur.toList.drop o').take m = u8s []) := by rw [ho', hm]; exact HCUR
  have HZ : Hid (o' = 0 ∧ m = 0) := hid ⟨ho', hm⟩
  have ho2 : o' ≤ 0 := by omega
  have hoc0 : o' < cap := by omega
  clear hb' ho1 hsz0 HO0 HG0 H0 c0 c1 f HK2 HK3 HH hmo ho' hm BL
  by_cases hn : n ≤ cap
  · have hy := try_yes (o := o') (l := []) n (some ⟨g, 0, none⟩) cap (by rw [HM.out]; exact H1.out) (by simp only [HM.out]; omega) (by simp only [HM.out]; omega)
    simp only [HM.out] at hy
    have hz : ((o' + m : Nat) : Int) = 0 := by omega
    rw [hz] at hy
    have c0 := H1.out.c0
    go_wp2_with fail
    refine hy.mono ?_
    rintro e w2 ⟨rfl, hg2, ho2⟩
    go_wp2_with fail
    go_ret
    refine ⟨.slice (some ⟨g, 0, none⟩) (o' + m + n) cap, o', 0, ?_, hg2, HO.out.trans ho2 fun j _ e => .inl e, .inl rfl, HZ.out.1⟩
    rw [HZ.out.1]
    rfl
  · have hmo : ((o' : Int) != 0) = false := by simp; omega
    have h0 : ¬ o' + m + n ≤ cap := by omega
    have hs : o' + m + n ≤ 1099511627776 := by omega
    have b1' : o' + m ≤ cap := by omega
    clear ho2 b1
    clear hm1
    go_wp2_with fail
    refine (try_no (o := o') (l := []) n (some ⟨g, 0, none⟩) cap (by rw [HM.out]; exact H1.out) (by simp only [HM.out]; omega) (by omega)).mono ?_
    rintro e w2 ⟨rfl, rfl⟩
    have c0 := H1.out.c0
    have c1 := H1.out.c1
    have f := H1.out.free
    obtain ⟨cur, hc2, hc3, hc4, hc5⟩ := HCUR.out
    have HC2 := hid hc2
    have HC5 := hid hc5
    clear hc2 hc5
    have hle : (o' : Int) ≤ (o' : Int) + (m : Int) := by omega
    have hcne : ¬ cap = o' := by omega
    have hcp : ¬ (n : Int) ≤ (cap : Int) / 2 - (m : Int) := by have := HZ.out.2; omega
    have d1 : decide ((n : Int) ≤ (cap : Int) / 2 - (m : Int)) = false := decide_eq_false hcp
    go_wp2_with fail
    have lc0 := later_cell c0
    have lc1 := later_cell c1
    have E0 : Hid ((o' : Int) + (n : Int) = ((o' + n : Nat) : Int)) := hid (by omega)
    have hgs : ∀ x : Later w1, Calls Tryd.prog 76 #[.slice (some ⟨g, o', none⟩) (m) (cap - o'), .int .i64 ((o' : Int) + (n : Int))] x.w' fun e w'' => ∃ u, e = .returned u ∧ Below x.w'.heap.size x.w' w'' ∧ (∃ G cap2 cur2, u = .slice (some ⟨G, 0, none⟩) (m) cap2 ∧ w1.heap.size ≤ G ∧ hget w'' G = some (.cells cur2 5 (0, 0)) ∧ m + n ≤ cap2 ∧ cap2 ≤ cur2.size ∧ cur2.size ≤ maxLen ∧ cur2.toList.take (m) = u8s ([])) := fun x => by
      rw [E0.out]
      refine (gslice_any _ ([]) (some ⟨g, o', none⟩) (cap - o') (by simp only [HM.out]) (by simp only [HM.out]; omega) (by omega) (o' + n) (by omega) (by simp only [HM.out]; omega) x.w' (fun _ => ⟨g, o', rfl, fun j hj => ?_⟩)).mono fun e w'' ⟨G, cap2, cur2, he, g1, g2, g3, g4, g5, g6, g7⟩ => ⟨_, he, g7, G, cap2, cur2, by simp only [HM.out], Nat.le_trans x.h.size g1, g2, by simp only [HM.out] at g3; omega, g4, g5, by simp only [HM.out] at g6; exact g6⟩
      exact later_cell (own_cell HC2.out (by rw [HM.out]; exact HC5.out) hj) x
    have HGS := hid hgs
    clear hgs
    refine wp_region_gho_last 19 [16] (fun _ u x => ∃ G cap2 cur2, u = .slice (some ⟨G, 0, none⟩) (m) cap2 ∧ w1.heap.size ≤ G ∧ hget x G = some (.cells cur2 5 (0, 0)) ∧ m + n ≤ cap2 ∧ cap2 ≤ cur2.size ∧ cur2.size ≤ maxLen ∧ cur2.toList.take (m) = u8s ([])) (by kernel_rfl) (by kernel_rfl) (by kernel_rfl) (by rfl) (by kernel_rfl) (by rfl) (fun _ u w w' ⟨G, cap, cur, h1, h2, h3, h4⟩ hb => ⟨G, cap, cur, h1, h2, keepB hb h3, h4⟩) ?_
    simp only [List.take_succ_cons, List.take_zero]
    repeat (first | (refine wpGho_plain (by kernel_rfl) (by decide) (by rfl) (by rfl) (fun K hK => ?_); go_simp; refine hK _ ?_; clear hK K; try go_ints))
    refine wpGho_make (by kernel_rfl) (by decide) (by rfl) (by rfl) (by rfl) (fun K hK => ?_)
    go_simp
    refine ⟨fun x => ⟨rfl, (HGS.out x).mono fun e w'' ⟨u, he, hb, G, cap2, cur2, x1, x2, x3, x4⟩ => ⟨u, he, hb, G, cap2, x1, x2, cur2, x3, x4⟩⟩, hK _ ?_⟩
    clear hK K
    repeat (first | (refine wpGho_plain (by kernel_rfl) (by decide) (by rfl) (by rfl) (fun K hK => ?_); go_simp; refine hK _ ?_; clear hK K; try go_ints))
    refine wpGho_nil ?_
    intro gg wM hwM hR
    obtain ⟨⟨w8, hM⟩, e8⟩ := hwM
    change wM = w8 at e8
    subst e8
    obtain ⟨G, cap2, cur2, hb8, hG, hc8, q1, q2, q3, q4⟩ := hR 16 (by decide)
    rw [show ∀ a, over _ [16] gg a = Act.put a (some 92) (gg 16) from fun _ => rfl, hb8]
    simp only [Act.put, List.setIfInBounds_toArray, List.set_cons_zero, List.set_cons_succ]
    have HM1 := hid (H1.out.below hM)
    have HOM := hid (HO.out.then (Out.of_below hM))
    have HC8 := hid hc8
    have HQ4 := hid q4
    clear lc0 lc1 c0 c1 f hM hb8 hc8 hR q4
    have c0 := HM1.out.c0
    have c1 := HM1.out.c1
    have f := HM1.out.free
    unfold maxLen at q3
    go_wp2_with fail
    go_ret
    have hGP : G ≠ P := by have := hget_lt H1.out.at_; omega
    refine ⟨.slice (some ⟨G, 0, none⟩) (m + n) cap2, 0, _, ?_, grown_two (n := n) (x := .slice (some ⟨G, 0, none⟩) (m) cap2) (v' := .slice (some ⟨G, 0, none⟩) (m + n) cap2) HM1.out.at_ HM1.out.fits (.inr ⟨G, cap2, cur2, by simp only [HM.out, Nat.zero_add], HC8.out, by simp only [HM.out, Nat.zero_add]; exact q1, q2, q3, by rw [List.drop_zero]; simp only [HM.out]; exact HQ4.out, by omega⟩) (by intro e; injection e with e; exact hGP e), ?_, .inr ⟨G, rfl, by omega⟩, rfl⟩
    · simp only [HM.out, Nat.zero_add]; rfl
    · exact ((HOM.out.setCell (p := ⟨P, k, none⟩) (.inl (.inl rfl)) _).setCell (p := ⟨P, k + 1, none⟩) (.inl (.inl rfl)) _).setCell (p := ⟨P, k, none⟩) (.inl (.inl rfl)) _
end

end Go.Proofs.YtejkimhmpnogkaaDoor
