/- A bytes.Buffer that lies in a struct's fields: what it holds; the walks of its methods. -/
import Derived.Test.YtejkimhmpnogkaaDoorQF
namespace Go.Proofs.YtejkimhmpnogkaaDoor
open Go Go.RowKit

theorem ret_i64 {a b : Int} (h : a = b) : Ending.returned (.int .i64 a) = .returned (.int .i64 b) := by rw [h]
/-- The fields of a buffer, put anew. -/
def bset (cs : Array Value) (k : Nat) (v : Value) (o : Nat) (r : Int) : Array Value := ((cs.setIfInBounds k v).setIfInBounds (k + 1) (.int .i64 (o : Int))).setIfInBounds (k + 2) (.int .i8 r)
section
variable (cs : Array Value) (k : Nat) (v v' : Value) (o o' : Nat) (r r' : Int)
theorem bset_size : (bset cs k v o r).size = cs.size := by simp [bset]
theorem bset_at0 (h : k + 2 < cs.size) : (bset cs k v o r)[k]? = some v := by simp [bset, Array.getElem?_setIfInBounds]; omega
theorem bset_at1 (h : k + 2 < cs.size) : (bset cs k v o r)[k + 1]? = some (.int .i64 (o : Int)) := by simp [bset, Array.getElem?_setIfInBounds]; omega
theorem bset_at2 (h : k + 2 < cs.size) : (bset cs k v o r)[k + 2]? = some (.int .i8 r) := by simp [bset, Array.getElem?_setIfInBounds]; omega
theorem bset_put0 : (bset cs k v o r).setIfInBounds k v' = bset cs k v' o r := by
  unfold bset
  rw [Array.setIfInBounds_comm _ _ (by omega), Array.setIfInBounds_comm (i := k + 1) _ _ (by omega), Array.setIfInBounds_setIfInBounds]
theorem bset_put1 : (bset cs k v o r).setIfInBounds (k + 1) (.int .i64 (o' : Int)) = bset cs k v o' r := by
  unfold bset
  rw [Array.setIfInBounds_comm _ _ (by omega), Array.setIfInBounds_setIfInBounds]
theorem bset_put2 : (bset cs k v o r).setIfInBounds (k + 2) (.int .i8 r') = bset cs k v o r' := by
  unfold bset
  rw [Array.setIfInBounds_setIfInBounds]
end

/-- A slice of bytes that a buffer has for itself, whose first o bytes were read: what is left. -/
def OwnU (w : World) (v : Value) (o : Nat) (l : List UInt8) : Prop :=
  (v = .slice none 0 0 ∧ o = 0 ∧ l = []) ∨
  ∃ g cap cur, v = .slice (some ⟨g, 0, none⟩) (o + l.length) cap ∧ hget w g = some (.cells cur 5 (0, 0)) ∧ o + l.length ≤ cap ∧ cap ≤ cur.size ∧ cur.size ≤ 9223372036854775807 ∧ (cur.toList.drop o).take l.length = u8s l ∧ 0 < cap
theorem OwnU.nil (w : World) : OwnU w (.slice none 0 0) 0 [] := .inl ⟨rfl, rfl, rfl⟩
theorem OwnU.keep {w w' : World} {v : Value} {o : Nat} {l : List UInt8} (h : OwnU w v o l) (hk : ∀ g ob, v.ownBlock = some g → hget w g = some ob → hget w' g = some ob) : OwnU w' v o l := by
  rcases h with h | ⟨g, cap, cur, rfl, h2, h3⟩
  · exact .inl h
  · exact .inr ⟨g, cap, cur, rfl, hk g _ rfl h2, h3⟩
theorem OwnU.lt {w : World} {v : Value} {o : Nat} {l : List UInt8} (h : OwnU w v o l) {g : Nat} (hg : v.ownBlock = some g) : g < w.heap.size := by
  rcases h with ⟨rfl, _⟩ | ⟨g', cap, cur, rfl, h2, _⟩
  · simp [Value.ownBlock] at hg
  · simp [Value.ownBlock] at hg; subst hg; exact hget_lt h2

/-- A buffer in block P from field k on. -/
structure BufAt (w : World) (P k : Nat) (T : TypeId) (cs : Array Value) (v : Value) (o : Nat) (r : Int) (l : List UInt8) : Prop where
  at_ : hget w P = some (.cells (bset cs k v o r) T (0, 0))
  fits : k + 2 < cs.size
  own : OwnU w v o l
  ne : v.ownBlock ≠ some P
section
variable {w w' : World} {P k : Nat} {T : TypeId} {cs : Array Value} {v : Value} {o : Nat} {r : Int} {l : List UInt8}
theorem BufAt.keep (h : BufAt w P k T cs v o r l) (hk : ∀ g ob, g = P ∨ v.ownBlock = some g → hget w g = some ob → hget w' g = some ob) : BufAt w' P k T cs v o r l :=
  ⟨hk P _ (.inl rfl) h.at_, h.fits, h.own.keep fun g ob e => hk g ob (.inr e), h.ne⟩
theorem BufAt.dr (h : BufAt w P k T cs v o r l) (hd : Dr w w') : BufAt w' P k T cs v o r l := h.keep fun g ob _ e => by obtain ⟨n, rfl⟩ := hd; exact e
theorem BufAt.below (h : BufAt w P k T cs v o r l) (hb : Below w.heap.size w w') : BufAt w' P k T cs v o r l := h.keep fun g _ _ e => (hb.block g (hget_lt e)).trans e
theorem BufAt.c0 (h : BufAt w P k T cs v o r l) : w.cell? ⟨P, k, none⟩ = some v := by rw [cell_at h.at_, bset_at0 _ _ _ _ _ h.fits]
theorem BufAt.c1 (h : BufAt w P k T cs v o r l) : w.cell? ⟨P, k + 1, none⟩ = some (.int .i64 (o : Int)) := by rw [cell_at h.at_, bset_at1 _ _ _ _ _ h.fits]
theorem BufAt.c2 (h : BufAt w P k T cs v o r l) : w.cell? ⟨P, k + 2, none⟩ = some (.int .i8 r) := by rw [cell_at h.at_, bset_at2 _ _ _ _ _ h.fits]
theorem BufAt.free (h : BufAt w P k T cs v o r l) (j : Nat) : w.frozen? ⟨P, j, none⟩ = false := free_at h.at_ j
theorem BufAt.bounds (h : BufAt w P k T cs v o r l) : ∃ a cap, v = .slice a (o + l.length) cap ∧ o + l.length ≤ cap ∧ cap ≤ 9223372036854775807 ∧ (a = none → o = 0 ∧ l.length = 0 ∧ cap = 0) ∧ (∀ x, a = some x → ∃ g, x = ⟨g, 0, none⟩ ∧ g ≠ P ∧ v.ownBlock = some g ∧ ∃ cur, hget w g = some (.cells cur 5 (0, 0)) ∧ cap ≤ cur.size ∧ cur.size ≤ 9223372036854775807 ∧ (cur.toList.drop o).take l.length = u8s l ∧ 0 < cap) := by
  have hne := h.ne
  rcases h.own with ⟨rfl, rfl, rfl⟩ | ⟨g, cap, cur, rfl, h2, h3, h4, h5, h6, h7⟩
  · exact ⟨none, 0, rfl, by simp, by simp, fun _ => ⟨rfl, rfl, rfl⟩, fun x hx => by cases hx⟩
  · exact ⟨_, cap, rfl, h3, Nat.le_trans h4 h5, fun e => (by cases e), fun x hx => by
      injection hx with hx
      refine ⟨g, hx.symm, fun e => hne (by rw [e]; rfl), rfl, cur, h2, h4, h5, h6, h7⟩⟩
/-- A field is put. -/
theorem BufAt.put0 (h : BufAt w P k T cs v o r l) (v' : Value) (o' : Nat) (l' : List UInt8) (ho : o' = o) (own : OwnU w v' o' l') (hn : v'.ownBlock ≠ some P) : BufAt (w.setCell ⟨P, k, none⟩ v') P k T cs v' o' r l' := by
  subst ho
  refine ⟨by rw [hget_setCell h.at_, bset_put0], h.fits, own.keep fun g ob e hg => hget_setCell_ne hg (by rintro rfl; exact hn e) _, hn⟩
theorem BufAt.put2 (h : BufAt w P k T cs v o r l) (r' : Int) : BufAt (w.setCell ⟨P, k + 2, none⟩ (.int .i8 r')) P k T cs v o r' l := by
  have hn := h.ne
  refine ⟨by rw [hget_setCell h.at_, bset_put2], h.fits, h.own.keep fun g ob e hg => hget_setCell_ne hg (by rintro rfl; exact hn e) _, hn⟩
end
/-- The blocks of a buffer. -/
def BEx (P : Nat) (v : Value) (k : Nat) : Prop := k = P ∨ v.ownBlock = some k

set_option maxHeartbeats 400000 in
theorem blen_any {w : World} {P k : Nat} {T : TypeId} {cs : Array Value} {v : Value} {o : Nat} {r : Int} {l : List UInt8} (h : BufAt w P k T cs v o r l) :
    Calls Tryd.prog 46 #[.pointer (some ⟨P, k, none⟩)] w fun e w' => e = .returned (.int .i64 (l.length : Int)) ∧ Dr w w' := by
  have c0 := h.c0
  have c1 := h.c1
  obtain ⟨a, cap, rfl, h1, h2, _, _⟩ := h.bounds
  clear h
  go_enter Tryd.func46, Tryd.ntmps46
  go_wp2_with fail
  go_quiet (fail)
  go_wp2_with fail
  go_ret
  exact ⟨ret_i64 (by omega), ⟨_, rfl⟩⟩

/-- Bytes that a slice shows. -/
def SlB (w : World) (sv : Value) (l : List UInt8) : Prop := ∃ a cap, sv = .slice a l.length cap ∧ l.length ≤ cap ∧ cap ≤ 9223372036854775807 ∧
  (0 < l.length → ∃ g o, a = some ⟨g, o, none⟩ ∧ ∀ j, j < l.length → w.cell? ⟨g, o + j, none⟩ = some (.int .u8 ((l.getD j 0).toNat : Int)))
theorem ret_sl (a : Option Addr) {n n' c : Nat} (h : n = n') : Ending.returned (.slice a n c) = .returned (.slice a n' c) := by rw [h]
theorem own_cell {w : World} {g o : Nat} {cur : Array Value} {l : List UInt8} (hg : hget w g = some (.cells cur 5 (0, 0))) (hx : (cur.toList.drop o).take l.length = u8s l) {j : Nat} (hj : j < l.length) :
    w.cell? ⟨g, o + j, none⟩ = some (.int .u8 ((l.getD j 0).toNat : Int)) := by
  rw [cell_at hg]
  have h1 : (u8s l)[j]? = some (.int .u8 ((l.getD j 0).toNat : Int)) := by unfold u8s; simp [hj]
  rw [← h1, ← hx, List.getElem?_take, if_pos hj, List.getElem?_drop, ← Array.getElem?_toList]

set_option maxHeartbeats 400000 in
theorem bbytes_any {w : World} {P k : Nat} {T : TypeId} {cs : Array Value} {v : Value} {o : Nat} {r : Int} {l : List UInt8} (h : BufAt w P k T cs v o r l) :
    Calls Tryd.prog 44 #[.pointer (some ⟨P, k, none⟩)] w fun e w' => (∃ sv, e = .returned sv ∧ SlB w sv l) ∧ Dr w w' := by
  have c0 := h.c0
  have c1 := h.c1
  rcases h.own with ⟨rfl, rfl, rfl⟩ | ⟨g, cap, cur, rfl, h2, h3, h4, h5, h6, h7⟩
  · clear h
    go_enter Tryd.func44, Tryd.ntmps44
    go_wp2_with fail
    go_quiet (fail)
    go_wp2_with fail
    go_ret
    exact ⟨⟨_, rfl, none, 0, rfl, Nat.le_refl _, by omega, fun h => absurd h (by simp)⟩, ⟨_, rfl⟩⟩
  · have H2 := hid h2
    have H6 := hid h6
    clear h h2 h6
    by_cases hc : o = cap
    · have hl0 : l.length = 0 := by omega
      obtain rfl := List.eq_nil_of_length_eq_zero hl0
      subst hc
      clear hl0
      simp only [List.length_nil, Nat.add_zero] at c0 h3
      go_enter Tryd.func44, Tryd.ntmps44
      go_wp2_with fail
      go_quiet (fail)
      go_wp2_with fail
      go_ret
      exact ⟨⟨_, rfl, some ⟨g, 0, none⟩, 0, by simp, by simp, by omega, fun h => absurd h (by simp)⟩, ⟨_, rfl⟩⟩
    · have hlt : o < cap := by omega
      generalize hn : l.length = n at *
      have HN := hid hn
      clear hn
      go_enter Tryd.func44, Tryd.ntmps44
      go_wp2_with fail
      go_quiet (fail)
      go_wp2_with fail
      go_ret
      refine ⟨⟨_, rfl, some ⟨g, o, none⟩, cap - o, ?_, by rw [HN.out]; omega, by omega, fun _ => ⟨g, o, rfl, fun j hj => own_cell H2.out (by rw [HN.out]; exact H6.out) hj⟩⟩, ⟨_, rfl⟩⟩
      rw [HN.out]
      rfl

/-- The first n bytes are read (n > 0). -/
theorem OwnU.read {w : World} {v : Value} {o : Nat} {l : List UInt8} (h : OwnU w v o l) (n : Nat) (h0 : 0 < n) (hn : n ≤ l.length) : OwnU w v (o + n) (l.drop n) := by
  rcases h with ⟨_, _, rfl⟩ | ⟨g, cap, cur, rfl, h2, h3, h4, h5, h6, h7⟩
  · simp at hn; omega
  · refine .inr ⟨g, cap, cur, by rw [List.length_drop]; congr 1; omega, h2, by rw [List.length_drop]; omega, h4, h5, ?_, h7⟩
    rw [List.length_drop, ← List.drop_drop, ← List.drop_take, h6]
    simp [u8s]
theorem BufAt.put1 {w : World} {P k : Nat} {T : TypeId} {cs : Array Value} {v : Value} {o : Nat} {r : Int} {l : List UInt8} (h : BufAt w P k T cs v o r l) (o' : Nat) (l' : List UInt8) (own : OwnU w v o' l') : BufAt (w.setCell ⟨P, k + 1, none⟩ (.int .i64 (o' : Int))) P k T cs v o' r l' := by
  have hn := h.ne
  refine ⟨by rw [hget_setCell h.at_, bset_put1], h.fits, own.keep fun g ob e hg => hget_setCell_ne hg (by rintro rfl; exact hn e) _, hn⟩

set_option maxHeartbeats 1000000 in
theorem bnext_any {w : World} {P k : Nat} {T : TypeId} {cs : Array Value} {v : Value} {o : Nat} {r : Int} {l : List UInt8} (h : BufAt w P k T cs v o r l) (n : Nat) (h0 : 0 < n) (hn : n ≤ l.length) :
    Calls Tryd.prog 48 #[.pointer (some ⟨P, k, none⟩), .int .i64 (n : Int)] w fun e w' => (∃ g cap, e = .returned (.slice (some ⟨g, o, none⟩) n cap) ∧ n ≤ cap ∧ g ≠ P ∧ ∀ j, j < n → w'.cell? ⟨g, o + j, none⟩ = some (.int .u8 ((l.getD j 0).toNat : Int))) ∧
      BufAt w' P k T cs v (o + n) (-1) (l.drop n) ∧ Out (· = P) w w' := by
  have h1 := h.put2 0
  have O1 := (Out.refl (· = P) w).setCell (p := ⟨P, k + 2, none⟩) (.inl rfl) (.int .i8 0)
  have c2 := h.c2
  have f := h.free
  have H1 := hid h1
  have HO1 := hid O1
  have hP := hget_lt h.at_
  rcases h.own with ⟨_, _, rfl⟩ | ⟨g, cap, cur, rfl, h2, h3, h4, h5, h6, h7⟩
  · simp at hn; omega
  have hgP : g ≠ P := fun e => h.ne (by rw [e]; rfl)
  have hget' := hget_setCell_ne h2 (p := ⟨P, k + 2, none⟩) (by show g ≠ P; exact hgP) (.int .i8 0)
  have H2 := hid hget'
  have H6 := hid h6
  clear h h1 O1 h2 h6 hget'
  obtain ⟨w1, hw1⟩ : ∃ w1, w.setCell ⟨P, k + 2, none⟩ (.int .i8 0) = w1 := ⟨_, rfl⟩
  rw [hw1] at H1 HO1 H2
  go_enter Tryd.func48, Tryd.ntmps48
  go_wp2_with fail
  refine (blen_any H1.out).mono ?_
  rintro e w2 ⟨rfl, hd2⟩
  have H3 := hid (H1.out.dr hd2)
  have HO3 := hid (HO1.out.then (Out.of_dr hd2))
  have HG3 : Hid (hget w2 g = some (.cells cur 5 (0, 0))) := hid (by obtain ⟨m, rfl⟩ := hd2; exact H2.out)
  clear hd2 c2 f hw1 H1 H2 HO1
  have c0 := H3.out.c0
  have c1 := H3.out.c1
  have c2 := H3.out.c2
  have f := H3.out.free
  generalize hm : l.length = m at *
  have HM := hid hm
  clear hm
  go_wp2_with fail
  go_quiet (fail)
  go_wp2_with fail
  go_ret
  have H4 := (((H3.out.put1 (o + n) (l.drop n) (OwnU.read H3.out.own n h0 (by rw [HM.out]; exact hn)))).put2 (-1)).dr (Dr.drewN (Dr.refl _) nq)
  have E0 : (o : Int) + (n : Int) = ((o + n : Nat) : Int) := by omega
  rw [E0]
  rw [HM.out]
  refine ⟨⟨g, cap - o, ?_, by omega, hgP, fun j hj => ?_⟩, H4, ?_⟩
  · first | rfl | exact ret_sl _ (by omega) | (simp; done)
  · refine own_cell (cur := cur) (l := l) ?_ (by rw [HM.out]; exact H6.out) (by rw [HM.out]; omega)
    exact hget_setCell_ne (hget_setCell_ne (w := w2) HG3.out (p := ⟨P, k + 1, none⟩) (by show g ≠ P; exact hgP) _) (p := ⟨P, k + 2, none⟩) (by show g ≠ P; exact hgP) _
  · exact ((HO3.out.setCell (p := ⟨P, k + 1, none⟩) (.inl rfl) _).setCell (p := ⟨P, k + 2, none⟩) (.inl rfl) _).drewN nq

theorem bset_all {w : World} {P k : Nat} {T : TypeId} {cs : Array Value} {v : Value} {o : Nat} {r : Int} (h : hget w P = some (.cells (bset cs k v o r) T (0, 0))) (hf : k + 2 < cs.size) (v' : Value) (o' : Nat) (r' : Int) {l' : List UInt8} (own : OwnU w v' o' l') (hn : v'.ownBlock ≠ some P) :
    BufAt (((w.setCell ⟨P, k, none⟩ v').setCell ⟨P, k + 1, none⟩ (.int .i64 (o' : Int))).setCell ⟨P, k + 2, none⟩ (.int .i8 r')) P k T cs v' o' r' l' := by
  refine ⟨?_, hf, own.keep fun g ob e hg => ?_, hn⟩
  · rw [hget_setCell (c := bset cs k v' o' r), bset_put2]
    rw [hget_setCell (c := bset cs k v' o r), bset_put1]
    rw [hget_setCell h, bset_put0]
  · have hgP : g ≠ P := by rintro rfl; exact hn e
    exact hget_setCell_ne (hget_setCell_ne (hget_setCell_ne hg (by show g ≠ P; exact hgP) _) (by show g ≠ P; exact hgP) _) (by show g ≠ P; exact hgP) _
/-- A buffer that is all read begins anew. -/
theorem OwnU.reset {w : World} {v : Value} {o : Nat} (h : OwnU w v o []) : ∃ v', OwnU w v' 0 [] ∧ v'.ownBlock = v.ownBlock ∧ ∃ a n cap, v = .slice a n cap ∧ v' = .slice a 0 cap := by
  rcases h with ⟨rfl, rfl, _⟩ | ⟨g, cap, cur, rfl, h2, h3, h4, h5, h6, h7⟩
  · exact ⟨_, .inl ⟨rfl, rfl, rfl⟩, rfl, none, 0, 0, rfl, rfl⟩
  · exact ⟨_, .inr ⟨g, cap, cur, rfl, h2, by simp, h4, h5, by simp [u8s], h7⟩, rfl, _, _, cap, rfl, rfl⟩

set_option maxHeartbeats 400000 in
theorem breset_any {w : World} {P k : Nat} {T : TypeId} {cs : Array Value} {o : Nat} {r : Int} (a : Option Addr) (cap : Nat) (h : BufAt w P k T cs (.slice a o cap) o r []) :
    Calls Tryd.prog 75 #[.pointer (some ⟨P, k, none⟩)] w fun e w' => e = .returned (.tuple #[]) ∧ BufAt w' P k T cs (.slice a 0 cap) 0 0 [] ∧ Out (· = P) w w' := by
  have c0 := h.c0
  have c1 := h.c1
  have c2 := h.c2
  have f := h.free
  obtain ⟨a1, cap1, hv0, hb1, hb2, _, _⟩ := h.bounds
  injection hv0 with e1 e2 e3
  subst e1 e3
  clear e2
  obtain ⟨v', ho, hv, a', n, cap', hv1, rfl⟩ := h.own.reset
  injection hv1 with e1 e2 e3
  subst e1 e2 e3
  have H4 : BufAt (((w.setCell ⟨P, k, none⟩ (.slice a 0 cap)).setCell ⟨P, k + 1, none⟩ (.int .i64 ((0 : Nat) : Int))).setCell ⟨P, k + 2, none⟩ (.int .i8 0)) P k T cs (.slice a 0 cap) 0 0 [] :=
    bset_all h.at_ h.fits _ 0 0 ho (by rw [hv]; exact h.ne)
  have H4' := hid H4
  clear h ho hv H4
  simp only [List.length_nil, Nat.add_zero] at hb1
  go_enter Tryd.func75, Tryd.ntmps75
  go_wp2_with fail
  go_end0
  exact ⟨rfl, H4'.out, (((Out.refl (· = P) w).setCell (p := ⟨P, k, none⟩) (.inl rfl) _).setCell (p := ⟨P, k + 1, none⟩) (.inl rfl) _).setCell (p := ⟨P, k + 2, none⟩) (.inl rfl) _⟩

end Go.Proofs.YtejkimhmpnogkaaDoor
