/- A bytes.Buffer in a struct's fields: bytes are written into an empty one. -/
import Derived.Test.YtejkimhmpnogkaaDoorBBF6
namespace Go.Proofs.YtejkimhmpnogkaaDoor
open Go Go.RowKit

section
variable {w : World} {P k : Nat} {T : TypeId} {cs : Array Value} {r : Int} {l : List UInt8}

set_option maxRecDepth 100000 in
set_option maxHeartbeats 2000000 in
theorem bwrite_nil (a : Option Addr) (ca : Nat) (hc : l.length ≤ ca) (_hc2 : ca ≤ 9223372036854775807) (h : BufAt w P k T cs (.slice none 0 0) 0 r []) (hl : l.length ≤ 1099511627776)
    (ha : 0 < l.length → ∃ g o, a = some ⟨g, o, none⟩ ∧ g ≠ P ∧ ∀ j, j < l.length → w.cell? ⟨g, o + j, none⟩ = some (.int .u8 ((l.getD j 0).toNat : Int))) :
    Calls Tryd.prog 43 #[.pointer (some ⟨P, k, none⟩), .slice a l.length ca] w fun e w' => e = .returned (.tuple #[.int .i64 (l.length : Int), .nilIface]) ∧ Wrote w P k T cs (.slice none 0 0) 0 l w' := by
  have h1 := h.put2 0
  have O1 := (Out.refl (BEx P (.slice none 0 0)) w).setCell (p := ⟨P, k + 2, none⟩) (.inl (.inl rfl)) (.int .i8 0)
  have c2 := h.c2
  have f := h.free
  have H1 := hid h1
  have HO1 := hid O1
  have hP := hget_lt h.at_
  have HA := hid ha
  clear h h1 O1 ha
  obtain ⟨w1, hw1⟩ : ∃ w1, w.setCell ⟨P, k + 2, none⟩ (.int .i8 0) = w1 := ⟨_, rfl⟩
  rw [hw1] at H1 HO1
  have hsz : w1.heap.size = w.heap.size := by rw [← hw1]; simp [World.setCell]
  obtain ⟨n, hn⟩ : ∃ n, l.length = n := ⟨_, rfl⟩
  rw [hn] at hc hl HA ⊢
  have HN := hid hn
  by_cases h0 : n = 0
  · obtain rfl : l = [] := List.eq_nil_of_length_eq_zero (by rw [hn, h0])
    subst h0
    have hy := try_yes (o := 0) (l := []) 0 none 0 H1.out (by simp) (by simp)
    have HY := hid hy
    clear hy hn
    go_enter Tryd.func43, Tryd.ntmps43
    go_wp2_with fail
    refine HY.out.mono ?_
    rintro e w2 ⟨rfl, hg, ho⟩
    have GA := hid hg
    have GO := hid (HO1.out.trans ho fun j _ e => .inl e)
    have c0 : w2.cell? ⟨P, k, none⟩ = some (.slice none 0 0) := hg.c0
    clear HY hg ho c2 f hw1
    go_wp2_with (first
      | (
          refine wpList_copy_nothing (o := ⟨some 31, _, _, _, _, _⟩) (by rfl) _ _ _ _ (by rfl) 5 Tryd.underlying57 (by kernel_rfl) _ _ _ _ _ _ (by rfl) (by rfl) (by rfl) ?_
        ))
    go_ret2
    refine ⟨rfl, .slice none 0 0, 0, 0, ⟨?_, GA.out.fits, .inl ⟨rfl, rfl, rfl⟩, (fun e => by cases e)⟩, Nat.le_refl _, GO.out, .inl rfl⟩
    exact GA.out.at_
  · have hn0 : 0 < n := by omega
    have HNO := hid (try_no (o := 0) (l := []) n none 0 H1.out (by simp; omega) (by omega))
    have HGR := hid (grow_nil n H1.out hn0 (by omega))
    clear hn
    go_enter Tryd.func43, Tryd.ntmps43
    go_wp2_with fail
    refine HNO.out.mono ?_
    rintro e w2 ⟨rfl, rfl⟩
    go_wp2_with fail
    refine HGR.out.mono ?_
    rintro e w2 ⟨v2, o2, r2, rfl, hg, ho, hown, rfl⟩
    have hgP := hg.ne
    rcases hg.own with ⟨_, _, _, e4⟩ | ⟨g, cp, cur, e1, h2, h3, h4, h5, h6⟩
    · omega
    subst e1
    have hgP' : g ≠ P := fun e => hgP (by rw [e]; rfl)
    have GA := hid hg
    have GO := hid (HO1.out.then ho)
    have hgn : w.heap.size ≤ g := by
      rcases hown with h | ⟨g2, hg2, hg3⟩
      · simp [Value.ownBlock] at h
      · injection hg2 with hg2
        subst hg2
        rw [← hsz]; exact hg3
    have c0 : w2.cell? ⟨P, k, none⟩ = some (.slice (some ⟨g, 0, none⟩) n cp) := by have := hg.c0; simpa using this
    have H2 := hid h2
    have GP := hid hgP
    have h7 := h6.2
    have h3' : n ≤ cp := by simpa using h3
    have hcp0 : ¬ cp = 0 := by omega
    clear HNO HGR hg ho hown c2 f hw1 h2 h6 h3 hgP
    go_wp2_with (first
      | (
          refine wp_copy_sl (o := ⟨some 31, _, _, _, _, _⟩) (by rfl) _ _ _ _ (by rfl) Tryd.underlying57 (by kernel_rfl) _ _ _ _ _ _ (by rfl) (by rfl) g 0 cur H2.out l (by rw [HN.out]; exact (Nat.min_self n).symm) (fun hpos => ⟨rfl, ?_⟩) (by rw [HN.out]; omega) ?_
          · obtain ⟨gs, os, e, hne, hcc⟩ := HA.out hn0
            refine ⟨gs, os, e, fun j hj => ?_⟩
            refine GO.out.cell (hcc j (by rw [HN.out] at hj; exact hj)) ?_
            rintro (e | e)
            · exact hne e
            · simp [Value.ownBlock] at e
        ))
    go_ret2
    rw [HN.out]
    refine ⟨rfl, .slice (some ⟨g, 0, none⟩) (0 + l.length) cp, 0, r2, ⟨?_, GA.out.fits, .inr ⟨g, cp, ovr cur 0 l, rfl, blk_heap (lt_blk H2.out), ?_, ?_, ?_, ?_, h7⟩, GP.out⟩, Nat.le_refl _, GO.out.blk (.inr hgn) _, .inr ⟨g, rfl, hgn⟩⟩
    · refine (blk_other P (fun e => hgP' e.symm)).trans ?_
      have := GA.out.at_
      rw [HN.out]
      exact this
    · rw [HN.out]; omega
    · rw [ovr_size (by rw [HN.out]; omega)]; exact h4
    · rw [ovr_size (by rw [HN.out]; omega)]; exact h5
    · exact ovr_new (by rw [HN.out]; omega)
end

end Go.Proofs.YtejkimhmpnogkaaDoor
