/- A bytes.Buffer in a struct's fields: texts and bytes are written. -/
import Derived.Test.YtejkimhmpnogkaaDoorBBF5
namespace Go.Proofs.YtejkimhmpnogkaaDoor
open Go Go.RowKit

section
variable {w : World} {P k : Nat} {T : TypeId} {cs : Array Value} {v : Value} {o : Nat} {r : Int} {l : List UInt8}

/-- What a write leaves. -/
def Wrote (w : World) (P k : Nat) (T : TypeId) (cs : Array Value) (v : Value) (o : Nat) (l' : List UInt8) (w' : World) : Prop :=
  ∃ v' o' r', BufAt w' P k T cs v' o' r' l' ∧ o' ≤ o ∧ Out (BEx P v) w w' ∧ (v'.ownBlock = v.ownBlock ∨ ∃ g, v'.ownBlock = some g ∧ w.heap.size ≤ g)

theorem grow_any (n : Nat) (h : BufAt w P k T cs v o r l) (hno : ∀ a m cap, v = .slice a m cap → ¬ m + n ≤ cap) (h0 : 0 < n) (hs : o + l.length + n ≤ 1099511627776) :
    Calls Tryd.prog 65 #[.pointer (some ⟨P, k, none⟩), .int .i64 (n : Int)] w fun e w' => Grew w P k T cs v l n e w' := by
  obtain ⟨a, cap, rfl, b1, b2, b3, b4⟩ := h.bounds
  have hn := hno _ _ _ rfl
  cases a with
  | none =>
    obtain ⟨rfl, hl, rfl⟩ := b3 rfl
    obtain rfl := List.eq_nil_of_length_eq_zero hl
    exact grow_nil n h h0 (by simpa using hs)
  | some x =>
    obtain ⟨g, rfl, _⟩ := b4 _ rfl
    by_cases hr : l.length = 0 ∧ o ≠ 0
    · obtain ⟨hl, ho⟩ := hr
      obtain rfl := List.eq_nil_of_length_eq_zero hl
      exact grow_reset n g cap h (by simpa using hn) (by simpa using hs) ho
    · exact grow_some n g cap h hn hs (fun e => by
        rcases Nat.eq_zero_or_pos o with h' | h'
        · exact h'
        · exact absurd ⟨e, by omega⟩ hr)

set_option maxRecDepth 100000 in
set_option maxHeartbeats 2000000 in
theorem bwrites_any (s : ByteArray) (h : BufAt w P k T cs v o r l) (hs : o + l.length + s.size ≤ 1099511627776) :
    Calls Tryd.prog 45 #[.pointer (some ⟨P, k, none⟩), .string s] w fun e w' => e = .returned (.tuple #[.int .i64 (s.size : Int), .nilIface]) ∧ Wrote w P k T cs v o (l ++ s.data.toList) w' := by
  have h1 := h.put2 0
  have O1 := (Out.refl (BEx P v) w).setCell (p := ⟨P, k + 2, none⟩) (.inl (.inl rfl)) (.int .i8 0)
  have c2 := h.c2
  have f := h.free
  have H1 := hid h1
  have HO1 := hid O1
  have hP := hget_lt h.at_
  clear h h1 O1
  obtain ⟨w1, hw1⟩ : ∃ w1, w.setCell ⟨P, k + 2, none⟩ (.int .i8 0) = w1 := ⟨_, rfl⟩
  rw [hw1] at H1 HO1
  have hsz : w1.heap.size = w.heap.size := by rw [← hw1]; simp [World.setCell]
  obtain ⟨a, cap, rfl, b1, b2, b3, b4⟩ := H1.out.bounds
  clear b3 b4
  obtain ⟨n, hn⟩ : ∃ n, s.size = n := ⟨_, rfl⟩
  by_cases hroom : o + l.length + n ≤ cap
  · have hy := try_yes n a cap H1.out hroom (by omega)
    rw [← hn] at hy
    obtain ⟨M, hM⟩ : ∃ M, o + l.length = M := ⟨_, rfl⟩
    rw [hM] at hy
    have HM2 := hid hM
    have HY := hid hy
    have HN := hid hn
    clear hy hn hM
    go_enter Tryd.func45, Tryd.ntmps45
    go_wp2_with fail
    refine HY.out.mono ?_
    rintro e w2 ⟨rfl, hg, ho⟩
    rw [← HM2.out] at hg
    have GA := hid hg
    have GO := hid (HO1.out.trans ho fun j _ e => .inl e)
    have GN : Hid ((Value.slice a (o + l.length + s.size) cap).ownBlock = (Value.slice a (o + l.length) cap).ownBlock ∨ ∃ g, (Value.slice a (o + l.length + s.size) cap).ownBlock = some g ∧ w.heap.size ≤ g) := hid (.inl (by cases a <;> rfl))
    clear HY hg ho c2 f hw1
    have ho2' : Hid (o ≤ o) := hid (Nat.le_refl o)
    obtain ⟨v2, hv2⟩ : ∃ v2, Value.slice a (o + l.length + s.size) cap = v2 := ⟨_, rfl⟩
    rw [hv2] at GA GN
    clear hv2
    have c0 := GA.out.c0
    have hgP := GA.out.ne
    rcases GA.out.own with ⟨e1, e2, e3, e4⟩ | ⟨g, cp, cur, e1, h2, h3, h4, h5, h6⟩
    · subst e1 e3
      try subst e2
      have hM0 : M = 0 := by have := HM2.out; simp at this; exact this.symm
      subst hM0
      have hs0 : s.size = 0 := e4
      have hnil : s.data.toList = [] := List.eq_nil_of_length_eq_zero (by simpa using hs0)
      have HNIL := hid hnil
      have HS0 := hid hs0
      clear hnil hs0 e4 hgP
      go_wp2_with (first
        | (
            refine Lib.wpList_copy_run (o := ⟨some 31, _, _, _, _, _⟩) _ (by rfl) _ _ _ _ (by rfl) _ _ (by rfl) (by rfl) (Lib.run_copy_empty_string (P := Tryd.prog) _ _ _ _ 5 none 0 0 s Tryd.underlying57 (by kernel_rfl) HS0.out) ?_
          ))
      go_ret2
      rw [HS0.out]
      refine ⟨rfl, ?_⟩
      rw [HNIL.out, List.append_nil]
      exact ⟨.slice none 0 0, 0, _, ⟨GA.out.at_, GA.out.fits, .inl ⟨rfl, rfl, rfl⟩, GA.out.ne⟩, Nat.zero_le _, GO.out, GN.out⟩
    · subst e1
      have hgP' : g ≠ P := fun e => hgP (by rw [e]; rfl)
      have hle : (M : Int) ≤ (M : Int) + (s.size : Int) := by omega
      have e0 : o + l.length + s.size = M + s.size := by rw [HM2.out]
      rw [e0] at c0
      have H2 := hid h2
      have H6 := hid h6.1
      have h7 := h6.2
      have h3' : M + s.size ≤ cp := by have := HM2.out; omega
      have hss : s.data.toList.length = s.size := by simp
      have HSS := hid hss
      have GP := hid hgP
      clear h2 h6 e0 hss hgP
      have happ : s.data.toList.length = s.size := HSS.out
      by_cases hcM : cp = M
      · have hs0 : s.size = 0 := by omega
        have hnil : s.data.toList = [] := List.eq_nil_of_length_eq_zero (by rw [HSS.out]; exact hs0)
        have HNIL := hid hnil
        have HS0 := hid hs0
        have HCM := hid hcM
        clear hnil hs0 happ hcM
        go_wp2_with (first
          | (
              refine Lib.wpList_copy_run (o := ⟨some 31, _, _, _, _, _⟩) _ (by rfl) _ _ _ _ (by rfl) _ _ (by rfl) (by rfl) (Lib.run_copy_empty_string (P := Tryd.prog) _ _ _ _ 5 _ _ _ s Tryd.underlying57 (by kernel_rfl) HS0.out) ?_
            ))
        all_goals
          go_ret2
          rw [HS0.out]
          refine ⟨rfl, ?_⟩
          rw [HNIL.out, List.append_nil]
          refine ⟨.slice (some ⟨g, 0, none⟩) (o + l.length) cp, o, 0, ⟨?_, GA.out.fits, .inr ⟨g, cp, cur, rfl, H2.out, by omega, h4, h5, H6.out, h7⟩, GP.out⟩, ho2'.out, GO.out, GN.out⟩
          have := GA.out.at_
          rw [HS0.out, Nat.add_zero] at this
          exact this
      · clear happ
        go_wp2_with (first
          | (
              refine wp_copy_str (o := ⟨some 31, _, _, _, _, _⟩) (by rfl) _ _ _ _ (by rfl) Tryd.underlying57 (by kernel_rfl) _ _ _ s (by rfl) (by rfl) g M cur H2.out (Nat.le_refl _) (fun _ => rfl) (by omega) ?_
            ))
        go_ret2
        refine ⟨rfl, .slice (some ⟨g, 0, none⟩) (o + (l ++ s.data.toList).length) cp, o, 0, ⟨?_, GA.out.fits, .inr ⟨g, cp, ovr cur M s.data.toList, rfl, blk_heap (lt_blk H2.out), ?_, ?_, ?_, ?_, h7⟩, GP.out⟩, ho2'.out, GO.out.blk ?_ _, GN.out⟩
        · refine (blk_other P (fun e => hgP' e.symm)).trans ?_
          have := GA.out.at_
          rw [List.length_append, HSS.out, ← Nat.add_assoc]
          exact this
        · rw [List.length_append, HSS.out]; omega
        · rw [ovr_size (by rw [HSS.out]; omega)]; exact h4
        · rw [ovr_size (by rw [HSS.out]; omega)]; exact h5
        · rw [← HM2.out]; exact ovr_join (by rw [HSS.out]; omega) H6.out
        · rcases GN.out with hgn | ⟨g2, hg2, hg3⟩
          · exact .inl (.inr hgn.symm)
          · injection hg2 with hg2
            subst hg2
            exact .inr hg3
  · have hn0 : 0 < n := by omega
    have hno := try_no n a cap H1.out hroom (by omega)
    have hgr := grow_any n H1.out (fun a' m' c' e => by injection e with e1 e2 e3; subst e2 e3; exact hroom) hn0 (by omega)
    rw [← hn] at hno hgr
    have HNO := hid hno
    have HGR := hid hgr
    clear hno hgr hn
    go_enter Tryd.func45, Tryd.ntmps45
    go_wp2_with fail
    refine HNO.out.mono ?_
    rintro e w2 ⟨rfl, rfl⟩
    go_wp2_with fail
    refine HGR.out.mono ?_
    rintro e w2 ⟨v2, o2, r2, rfl, hg, ho, hown, rfl⟩
    have GA := hid hg
    have GO := hid (HO1.out.then ho)
    have GN := hid hown
    rw [hsz] at GN
    obtain ⟨M, hM⟩ : ∃ M, 0 + l.length = M := ⟨_, rfl⟩
    rw [hM]
    have HM2 := hid hM
    have ho2' : Hid (0 ≤ o) := hid (Nat.zero_le o)
    clear HNO HGR hg ho hown c2 f hw1 hM
    have c0 := GA.out.c0
    have hgP := GA.out.ne
    rcases GA.out.own with ⟨e1, e2, e3, e4⟩ | ⟨g, cp, cur, e1, h2, h3, h4, h5, h6⟩
    · subst e1 e3
      try subst e2
      have hM0 : M = 0 := by have := HM2.out; simp at this; exact this.symm
      subst hM0
      have hs0 : s.size = 0 := e4
      have hnil : s.data.toList = [] := List.eq_nil_of_length_eq_zero (by simpa using hs0)
      have HNIL := hid hnil
      have HS0 := hid hs0
      clear hnil hs0 e4 hgP
      go_wp2_with (first
        | (
            refine Lib.wpList_copy_run (o := ⟨some 31, _, _, _, _, _⟩) _ (by rfl) _ _ _ _ (by rfl) _ _ (by rfl) (by rfl) (Lib.run_copy_empty_string (P := Tryd.prog) _ _ _ _ 5 none 0 0 s Tryd.underlying57 (by kernel_rfl) HS0.out) ?_
          ))
      go_ret2
      rw [HS0.out]
      refine ⟨rfl, ?_⟩
      rw [HNIL.out, List.append_nil]
      exact ⟨.slice none 0 0, 0, _, ⟨GA.out.at_, GA.out.fits, .inl ⟨rfl, rfl, rfl⟩, GA.out.ne⟩, Nat.zero_le _, GO.out, GN.out⟩
    · subst e1
      have hgP' : g ≠ P := fun e => hgP (by rw [e]; rfl)
      have hle : (M : Int) ≤ (M : Int) + (s.size : Int) := by omega
      have e0 : 0 + l.length + s.size = M + s.size := by rw [HM2.out]
      rw [e0] at c0
      have H2 := hid h2
      have H6 := hid h6.1
      have h7 := h6.2
      have h3' : M + s.size ≤ cp := by have := HM2.out; omega
      have hss : s.data.toList.length = s.size := by simp
      have HSS := hid hss
      have GP := hid hgP
      clear h2 h6 e0 hss hgP
      have happ : s.data.toList.length = s.size := HSS.out
      by_cases hcM : cp = M
      · have hs0 : s.size = 0 := by omega
        have hnil : s.data.toList = [] := List.eq_nil_of_length_eq_zero (by rw [HSS.out]; exact hs0)
        have HNIL := hid hnil
        have HS0 := hid hs0
        have HCM := hid hcM
        clear hnil hs0 happ hcM
        go_wp2_with (first
          | (
              refine Lib.wpList_copy_run (o := ⟨some 31, _, _, _, _, _⟩) _ (by rfl) _ _ _ _ (by rfl) _ _ (by rfl) (by rfl) (Lib.run_copy_empty_string (P := Tryd.prog) _ _ _ _ 5 _ _ _ s Tryd.underlying57 (by kernel_rfl) HS0.out) ?_
            ))
        all_goals
          go_ret2
          rw [HS0.out]
          refine ⟨rfl, ?_⟩
          rw [HNIL.out, List.append_nil]
          refine ⟨.slice (some ⟨g, 0, none⟩) (0 + l.length) cp, 0, r2, ⟨?_, GA.out.fits, .inr ⟨g, cp, cur, rfl, H2.out, by omega, h4, h5, H6.out, h7⟩, GP.out⟩, ho2'.out, GO.out, GN.out⟩
          have := GA.out.at_
          rw [HS0.out, Nat.add_zero] at this
          exact this
      · clear happ
        go_wp2_with (first
          | (
              refine wp_copy_str (o := ⟨some 31, _, _, _, _, _⟩) (by rfl) _ _ _ _ (by rfl) Tryd.underlying57 (by kernel_rfl) _ _ _ s (by rfl) (by rfl) g M cur H2.out (Nat.le_refl _) (fun _ => rfl) (by omega) ?_
            ))
        go_ret2
        refine ⟨rfl, .slice (some ⟨g, 0, none⟩) (0 + (l ++ s.data.toList).length) cp, 0, r2, ⟨?_, GA.out.fits, .inr ⟨g, cp, ovr cur M s.data.toList, rfl, blk_heap (lt_blk H2.out), ?_, ?_, ?_, ?_, h7⟩, GP.out⟩, ho2'.out, GO.out.blk ?_ _, GN.out⟩
        · refine (blk_other P (fun e => hgP' e.symm)).trans ?_
          have := GA.out.at_
          rw [List.length_append, HSS.out, ← Nat.add_assoc]
          exact this
        · rw [List.length_append, HSS.out]; omega
        · rw [ovr_size (by rw [HSS.out]; omega)]; exact h4
        · rw [ovr_size (by rw [HSS.out]; omega)]; exact h5
        · rw [← HM2.out]; exact ovr_join (by rw [HSS.out]; omega) H6.out
        · rcases GN.out with hgn | ⟨g2, hg2, hg3⟩
          · exact .inl (.inr hgn.symm)
          · injection hg2 with hg2
            subst hg2
            exact .inr hg3
end

end Go.Proofs.YtejkimhmpnogkaaDoor
