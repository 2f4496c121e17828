/- The walk of Expand. The walks of Expand (all of it) and Extract. -/
import Derived.Test.YtejkimhmpnogkaaDoorHkW1
import Derived.Test.YtejkimhmpnogkaaDoorBLD
import Derived.Test.YtejkimhmpnogkaaDoorTWO
namespace Go.Proofs.YtejkimhmpnogkaaDoor
open Go.RowKit Go.Shelf
attribute [local go_sem] Oper.semAt_some

theorem bld_kept {T e : TypeId} {B b : Nat} {p : Value} {bs : List Value} {w w' : World} {row : Option Nat} (h : Lib.BuilderAtF T e B b p bs w) (hg : w.grownBy w' row)
    (hr : ∀ r, row = some r → ∃ o : Obj, w.heap[r]? = some o ∧ o.isCells = false) : Lib.BuilderAtF T e B b p bs w' := by
  obtain ⟨hB, v, hb, hown, hne⟩ := h
  have no : ∀ g c t f, w.heap[g]? = some (.cells c t f) → some g ≠ row := fun g c t f hc e => by
    obtain ⟨o, ho, hn⟩ := hr g e.symm
    rw [hc] at ho; cases ho; cases hn
  refine ⟨hB, v, (hg.block b (lt_blk hb) (no b _ _ _ hb)).trans hb, hown.kept hg ?_, hne⟩
  cases hv : v.ownBlock with
  | none => exact .inl rfl
  | some g =>
    refine .inr ?_
    rcases hown.2 with ⟨rfl, _⟩ | ⟨g', cap, cur, fz, rfl, _, hgg, _⟩
    · simp [Value.ownBlock] at hv
    · simp [Value.ownBlock] at hv
      subst hv
      exact no _ _ _ _ hgg
theorem isbld_kept {T e : TypeId} {B b : Nat} {bs : List Value} {w w' : World} {row : Option Nat} (h : Lib.IsBuilderF T e B b bs w) (hg : w.grownBy w' row)
    (hr : ∀ r, row = some r → ∃ o : Obj, w.heap[r]? = some o ∧ o.isCells = false) : Lib.IsBuilderF T e B b bs w' :=
  h.elim (fun h => .inl (bld_kept h hg hr)) (fun h => .inr (bld_kept h hg hr))
theorem cells_kept {w w' : World} {row : Option Nat} {b : Nat} {c : Array Value} {T : TypeId} {f : Nat × Nat} (h : w.heap[b]? = some (.cells c T f)) (hg : w.grownBy w' row)
    (hr : ∀ r, row = some r → ∃ o : Obj, w.heap[r]? = some o ∧ o.isCells = false) : w'.heap[b]? = some (.cells c T f) :=
  (hg.block b (lt_blk h) (fun e => by obtain ⟨o, ho, hn⟩ := hr b e.symm; rw [h] at ho; cases ho; cases hn)).trans h

/-- What stands between two rounds of Expand. -/
structure EI (key info : ByteArray) (W : World) (Z N : Nat) (pre : List Pc) (w : World) : Prop where
  bld : Lib.IsBuilderF 83 5 Z (Z + 1) (Lib.byteCells (pcs pre)) w
  bn : w.heap[Z]? = some (.cells #[.int .i64 (N : Int)] 3 (0, 0))
  bk : w.heap[Z + 1 + 1]? = some (.cells #[.string key] 9 (0, 0))
  bi : w.heap[Z + 1 + 1 + 1]? = some (.cells #[.string info] 9 (0, 0))
  tab : Tab w
  below : Below Z W w
theorem EI.kept {key info : ByteArray} {W : World} {Z N : Nat} {pre : List Pc} {w w' : World} {row : Option Nat} (h : EI key info W Z N pre w) (hg : w.grownBy w' row)
    (hr : ∀ r, row = some r → Z ≤ r ∧ ∃ o : Obj, w.heap[r]? = some o ∧ o.isCells = false) (hZ : Z ≤ w.heap.size) : EI key info W Z N pre w' := by
  have hr2 := fun r e => (hr r e).2
  obtain ⟨T, f, ht⟩ := h.tab
  exact ⟨isbld_kept h.bld hg hr2, cells_kept h.bn hg hr2, cells_kept h.bk hg hr2, cells_kept h.bi hg hr2, ⟨T, f, cells_kept ht hg hr2⟩, h.below.grown hg hZ (fun k e => (hr k e).1)⟩
/-- Behind a step that leaves all but the builder. -/
theorem EI.step {key info : ByteArray} {W : World} {Z N : Nat} {pre pre' : List Pc} {w w' : World} (h : EI key info W Z N pre w) (hb : Lib.IsBuilderF 83 5 Z (Z + 1) (Lib.byteCells (pcs pre')) w')
    (hB : Below Z w w') (hk : Lib.OthersKept 5 (some (Z + 1)) w w') (hZ0 : 0 < Z) : EI key info W Z N pre' w' :=
  ⟨hb, hk Z _ h.bn (by simp) (by intro c fz e; cases e), hk _ _ h.bk (fun e => by have := Option.some.inj e; omega) (by intro c fz e; cases e), hk _ _ h.bi (fun e => by have := Option.some.inj e; omega) (by intro c fz e; cases e), h.tab.belowB hB hZ0, h.below.trans hB⟩
theorem EI.drew {key info : ByteArray} {W : World} {Z N : Nat} {pre : List Pc} {w : World} (h : EI key info W Z N pre w) : EI key info W Z N pre w.drew :=
  ⟨h.bld, h.bn, h.bk, h.bi, h.tab, h.below.drew⟩
theorem EI.lt {key info : ByteArray} {W : World} {Z N : Nat} {pre : List Pc} {w : World} (h : EI key info W Z N pre w) : Z + 1 + 1 + 1 < w.heap.size := lt_blk h.bi
theorem pcs_length (pre : List Pc) : (pcs pre).length = 32 * pre.length := by
  induction pre with
  | nil => rfl
  | cons a t ih => rw [pcs, List.flatMap_cons, List.length_append, a.2, List.length_cons]; have : (List.flatMap (·.1) t).length = 32 * t.length := ih; omega
theorem pcs_snoc (pre : List Pc) (x : Pc) : pcs (pre ++ [x]) = pcs pre ++ x.1 := by simp [pcs]

set_option maxRecDepth 100000 in
set_option maxHeartbeats 2000000 in
theorem expand_pos (key info : ByteArray) (N : Nat) (W : World) (hT : Tab W) (hk : key.size ≤ 68719476736) (hi : info.size ≤ 34359738368) (h0 : 0 < N) (hN : N ≤ 8160) :
    Calls Tryd.prog 25 #[.string key, .string info, .int .i64 (N : Int)] W fun e w' => e = .returned (.tuple #[.string ⟨(HK.expand key.data.toList info.data.toList N).toArray⟩, .int .i64 0]) ∧ Below W.heap.size W w' := by
  refine (callsIn_wide (n := 4)).1 ?_
  refine callsIn_of_wp_marks Tryd.func25 rfl trivial ?_ rfl
  simp only [Tryd.ntmps25, List.size_toArray, List.length_cons, List.length_nil, Nat.reduceAdd, Nat.reduceSub, Array.replicate_succ, Array.replicate_zero, List.push_toArray, List.append_toArray, List.nil_append, List.cons_append]
  have d0 : decide ((N : Int) < 0) = false := decide_eq_false (by omega)
  have d1 : decide ((N : Int) > 8160) = false := decide_eq_false (by omega)
  have d2 : decide ((N : Int) > 0) = true := decide_eq_true (by omega)
  have hZ0 : 0 < W.heap.size := hT.lt
  gi_wp2_with fail
  refine ⟨trivial, (callsIn_wide.2 (pieces_any key info _)).mono ?_⟩
  rintro e w4 ⟨rfl, hw4⟩
  simp only [World.size_alloc]
  obtain ⟨Z, hZ⟩ : ∃ Z, W.heap.size = Z := ⟨_, rfl⟩
  have EI0 : EI key info W Z N [] w4 := by
    have b1 := alloc_at W (.cells #[.int .i64 (N : Int)] 3)
    have b2 := alloc_at (W.alloc (.cells #[.int .i64 (N : Int)] 3)) (.cells #[.pointer none, .slice none 0 0] 83)
    have b3 := alloc_at ((W.alloc (.cells #[.int .i64 (N : Int)] 3)).alloc (.cells #[.pointer none, .slice none 0 0] 83)) (.cells #[.string key] 9)
    have b4 := alloc_at (((W.alloc (.cells #[.int .i64 (N : Int)] 3)).alloc (.cells #[.pointer none, .slice none 0 0] 83)).alloc (.cells #[.string key] 9)) (.cells #[.string info] 9)
    simp only [World.size_alloc, hZ] at b1 b2 b3 b4
    have B4 : Below W.heap.size W w4 := by rw [hw4]; exact below_alloc (below_alloc (below_alloc (below_new _) _) _) _
    refine ⟨.inl ⟨by omega, .slice none 0 0, ?_, World.ownsRowF_nil _ _ _ _, by simp [Value.ownBlock]⟩, ?_, ?_, ?_, hT.keep B4, hZ ▸ B4⟩
    · rw [hw4]; exact alloc_old (alloc_old b2)
    · rw [hw4]; exact alloc_old (alloc_old (alloc_old b1))
    · rw [hw4]; exact alloc_old b3
    · rw [hw4]; exact b4
  have hs4 : w4.heap.size = Z + 1 + 1 + 1 + 1 := by rw [hw4]; simp [World.size_alloc, hZ]
  rw [hZ] at hZ0 ⊢
  have HT := hid hT
  have HZ := hid hZ
  clear hw4 hT hZ
  have hmono : Z ≤ w4.heap.size := by omega
  gi_wp2_with fail
  refine wp_range_ends rfl (by decide) (gf := 69) (lb := #[.pointer (some ⟨Z + 1 + 1, 0, none⟩), .pointer (some ⟨Z + 1 + 1 + 1, 0, none⟩)]) rfl trivial (enters_of Tryd.func69 (by kernel_rfl) rfl)
    (pieces_ends key info hk hi (Z + 1 + 1) (Z + 1 + 1 + 1) _ (by decide)) (fun _ => rfl) 0
    (fun pre w => EI key info W Z N pre w ∧ 32 * pre.length < N) (fun pre w => EI key info W Z N pre w ∧ N ≤ 32 * pre.length)
    (fun s A B row hs hg hr => ⟨hs.1.kept hg (fun r e => ⟨Nat.le_trans hmono (hr r e).1, (hr r e).2⟩) (by have := hs.1.lt; omega), hs.2⟩)
    (fun s A B row hs hg hr => ⟨hs.1.kept hg (fun r e => ⟨Nat.le_trans hmono (hr r e).1, (hr r e).2⟩) (by have := hs.1.lt; omega), hs.2⟩)
    (fun pre w h => ⟨by have := h.2; omega, h.1.tab, cell_at h.1.bk 0, cell_at h.1.bi 0⟩)
    ⟨EI0, by simpa using h0⟩
    (fun x => { tmps := #[.string key, .string info, .int .i64 (N : Int), undef, undef, .pointer (some ⟨Z, 0, none⟩), .string ⟨#[]⟩, .int .i64 0, .pointer (some ⟨Z + 1, 0, none⟩), .string ⟨x.1.toArray⟩, .int .i64 (N : Int), .bool false, .bool false, .int .i64 (N : Int), .bool false, .bool false, .int .i64 (N : Int), .bool true, .string key, .string info, .func (.func 69) #[] #[.pointer (some ⟨Z + 1 + 1, 0, none⟩), .pointer (some ⟨Z + 1 + 1 + 1, 0, none⟩)], .string ⟨x.1.toArray⟩, undef, undef, undef, undef, undef, undef, undef, undef], defers := [] }) ?assign ?body ?stop
  case assign =>
    intro l x W K hK
    gi_wp2
    exact hK
  case body =>
    rintro l pre x w ⟨hE, hlt⟩
    have HE := hid hE
    have hsz : (⟨x.1.toArray⟩ : ByteArray).size = 32 := by show x.1.toArray.size = 32; simp [x.2]
    have hws := hid (bwriteString Z (Z + 1) (Lib.byteCells (pcs pre)) ⟨x.1.toArray⟩ w hE.bld (by rw [Lib.byteCells_length, pcs_length, hsz]; omega) (by have := hE.lt; omega))
    rw [hsz] at hws
    clear hE
    gi_wp2_with fail
    refine ⟨trivial, (CallsIn.inRound l (callsIn_wide.2 hws.out)).mono ?_⟩
    rintro e w2 ⟨rfl, hb2, hB2, hk2⟩
    have eb : Lib.byteCells (pcs pre) ++ Lib.strCells ⟨x.1.toArray⟩ = Lib.byteCells (pcs (pre ++ [x])) := by
      rw [pcs_snoc, Lib.byteCells_append]; rfl
    rw [eb] at hb2
    have hKF : KeepsFrom w4.heap.size w w2 := ⟨hB2.size, fun k o _ hk ho => hk2 k o hk (fun e => by
      obtain rfl : k = Z + 1 := by simpa using e
      rcases HE.out.bld with ⟨_, v, hb, _⟩ | ⟨_, v, hb, _⟩ <;> (rw [hb] at hk; cases hk; cases ho)) (fun c fz e => by subst e; cases ho)⟩
    have hlen := blen_of Z (Z + 1) _ _ w2.drew hb2
    rw [Lib.byteCells_length, pcs_length] at hlen
    have E2 := hid (HE.out.step (pre' := pre ++ [x]) (.inr hb2) hB2 hk2 hZ0)
    have HLEN := hid hlen
    have HKF := hid hKF
    have cn := cell_at E2.out.bn 0
    have hl1 : (pre ++ [x]).length = pre.length + 1 := by simp
    have hmx : Tryd.prog.follows .mixedOrders = true := by kernel_rfl
    clear hb2 hB2 hk2 hKF hws HE hlen eb
    obtain ⟨L, hL⟩ : ∃ L, 32 * (pre ++ [x]).length = L := ⟨_, rfl⟩
    rw [hL] at HLEN
    have HLL := hid hL
    clear hL
    by_cases hc : N ≤ L
    · have hd : decide ((L : Int) ≥ (N : Int)) = true := decide_eq_true (by omega)
      gi_wp2_with fail
      gi_region_with_o (refine ⟨trivial, ?_⟩; gi_at_call 51; refine (CallsIn.inRound l (callsIn_wide.2 HLEN.out)).mono ?_; rintro e w' ⟨rfl, rfl⟩)
      all_goals gi_wp2_with fail
      all_goals exact ⟨rfl, ⟨HKF.out.size, HKF.out.same⟩, E2.out.drew, by rw [HLL.out]; exact hc⟩
    · have hd : decide ((L : Int) ≥ (N : Int)) = false := decide_eq_false (by omega)
      gi_wp2_with fail
      gi_region_with_o (refine ⟨trivial, ?_⟩; gi_at_call 51; refine (CallsIn.inRound l (callsIn_wide.2 HLEN.out)).mono ?_; rintro e w' ⟨rfl, rfl⟩)
      all_goals gi_wp2_with fail
      all_goals exact ⟨⟨HKF.out.size, HKF.out.same⟩, E2.out.drew, by rw [HLL.out]; omega⟩
  case stop =>
    rintro D pre w hD hSp ⟨hE, hle⟩ hK
    obtain ⟨p, hbd⟩ : ∃ p, Lib.BuilderAtF 83 5 Z (Z + 1) p (Lib.byteCells (pcs pre)) w.drew := hE.bld.elim (fun h => ⟨_, h⟩) (fun h => ⟨_, h⟩)
    have hne : pcs pre ≠ [] := fun e => by have := pcs_length pre; rw [e] at this; simp at this; omega
    have hst := hid (bstring_of Z (Z + 1) (pcs pre) p w.drew hbd hne)
    have cn := cell_at hE.bn 0
    have HE := hid hE
    have HKD := hid hK
    have hpl := pcs_length pre
    obtain ⟨S, hS⟩ : ∃ S : ByteArray, (⟨(pcs pre).toArray⟩ : ByteArray) = S := ⟨_, rfl⟩
    have hSz : S.size = 32 * pre.length := by rw [← hS]; show (pcs pre).toArray.size = _; simp [hpl]
    have hex : (S.extract 0 N) = ⟨(HK.expand key.data.toList info.data.toList N).toArray⟩ := by
      have hneed : HK.need N ≤ pre.length := by unfold HK.need; omega
      rw [← HK.expand_of _ _ hneed, ← hSp, ← hS]
      apply ByteArray.ext
      rw [ByteArray.data_extract]
      simp
    rw [hS] at hst
    have HEX := hid hex
    have hn0 : (0 : Int) ≤ (N : Int) := by omega
    have hn1 : (N : Int) ≤ (S.size : Int) := by omega
    have hn2 : N ≤ S.size := by omega
    clear hbd hne hE hK hS hSz hex hpl hSp hle
    gi_wp2_with fail
    refine wpIn_wide.2 ?_
    refine wp_region_two (by rfl) (by kernel_rfl) (by kernel_rfl) (by kernel_rfl) (by kernel_rfl) ?_ ?_
    · go_wp2_with fail
      refine hst.out.mono ?_
      rintro e w' ⟨rfl, hb, hkk⟩
      have hkz := hkk Z _ HE.out.bn (by simp) (by intro c fz e; cases e)
      have cn2 := cell_at hkz 0
      have hkd := hkk D _ HKD.out (fun e => by have := Option.some.inj e; omega) (by intro c fz e; cases e)
      have HKK := hid hkd
      have BB := hid (HE.out.below.drew.trans hb)
      clear hb hkk hkz hkd hst
      go_wp2_with fail
      gi_wp2_with fail
      refine ⟨by simp, .inl ⟨_, _, rfl, run_takeDeferred HKK.out, ?_⟩⟩
      have hDlt := (Array.getElem?_eq_some_iff.1 HKK.out).1
      have bz := BB.out.grown (grownBy_putObj' w' D (.deferred none)) (by have h1 := HZ.out; have h2 := BB.out.size; omega) (fun k e => by cases e; omega)
      exact ⟨_, results_tmp2 rfl _ _ _, by rw [HEX.out]; rfl, by rw [HZ.out]; exact bz⟩
    · go_wp2_with fail
      refine hst.out.mono ?_
      rintro e w' ⟨rfl, hb, hkk⟩
      have hkd := hkk D _ HKD.out (fun e => by have := Option.some.inj e; omega) (by intro c fz e; cases e)
      have HKK := hid hkd
      have BB := hid (HE.out.below.drew.trans hb)
      clear hb hkk hkd hst
      go_wp2_with fail
      gi_wp2_with fail
      refine ⟨by simp, .inl ⟨_, _, rfl, run_takeDeferred HKK.out, ?_⟩⟩
      have hDlt := (Array.getElem?_eq_some_iff.1 HKK.out).1
      have bz := BB.out.grown (grownBy_putObj' w' D (.deferred none)) (by have h1 := HZ.out; have h2 := BB.out.size; omega) (fun k e => by cases e; omega)
      exact ⟨_, results_tmp2 rfl _ _ _, by rw [HEX.out]; rfl, by rw [HZ.out]; exact bz⟩

end Go.Proofs.YtejkimhmpnogkaaDoor

namespace Go.Proofs.YtejkimhmpnogkaaDoor
open Go.RowKit

theorem extract_any (key s : ByteArray) (W : World) (hT : Tab W) (hk : key.size ≤ 68719476736) (hs : s.size ≤ 68719476736) :
    Calls Tryd.prog 27 #[.string key, .string s] W fun e w' => e = .returned (.string ⟨(SM.tag key.data.toList s.data.toList).toArray⟩) ∧ Below W.heap.size W w' := by
  have h := hid (tag_any key s W hT hk hs)
  clear hT
  go_enter Tryd.func27, Tryd.ntmps27
  go_wp2_with fail
  refine h.out.mono ?_
  clear h
  rintro e w' ⟨rfl, hb⟩
  go_wp2_with fail
  go_ret
  exact ⟨rfl, hb⟩

set_option maxHeartbeats 1000000 in
theorem expand_no (key info : ByteArray) (n : Int) (W : World) (h : n < 0 ∨ 8160 < n) :
    Calls Tryd.prog 25 #[.string key, .string info, .int .i64 n] W fun e w' => e = .returned (.tuple #[.string ⟨#[]⟩, .int .i64 2]) ∧ Below W.heap.size W w' := by
  have B := hid (below_new (w := W) (.cells #[.int .i64 n] 3))
  by_cases hn : n < 0
  · have d0 : decide (n < 0) = true := decide_eq_true hn
    go_enter Tryd.func25, Tryd.ntmps25
    go_wp2_with fail
    go_ret2
    exact ⟨rfl, B.out⟩
  · have d0 : decide (n < 0) = false := decide_eq_false hn
    have d1 : decide (n > 8160) = true := decide_eq_true (by omega)
    go_enter Tryd.func25, Tryd.ntmps25
    go_wp2_with fail
    go_ret2
    exact ⟨rfl, B.out⟩

set_option maxHeartbeats 2000000 in
set_option maxRecDepth 100000 in
theorem bstring_nil (b : Nat) (p : Value) (w : World) (h : w.heap[b]? = some (.cells #[p, .slice none 0 0] 83 (0, 0))) :
    Calls Tryd.prog 52 #[.pointer (some ⟨b, 0, none⟩)] w fun e w' => e = .returned (.string ⟨#[]⟩) ∧ w' = w.drew := by
  have c1 : w.drew.cell? ⟨b, 1, none⟩ = some (.slice none 0 0) := by
    have : w.drew.heap[b]? = some (.cells #[p, .slice none 0 0] 83 (0, 0)) := h
    rw [Lib.cell_of_heap this]; rfl
  have hSD : (Builtin.unsafeSliceData_ #[57] 106 #[.slice none 0 0]).run Tryd.prog w.drew = .ok (.pointer none) w.drew := rfl
  have hUS : (Builtin.unsafeString_ #[106, 3] 9 #[.pointer none, .int .i64 0]).run Tryd.prog w.drew = .ok (.string .empty) w.drew := Lib.run_unsafeString_none w.drew _ _ _ none
  clear h
  go_enter Tryd.func52, Tryd.ntmps52
  go_wp2_with fail
  refine still_tail 10 (by kernel_rfl) (by kernel_rfl) ?_
  simp only [List.take_succ_cons, List.take_zero, List.drop_succ_cons, List.drop_zero]
  repeat (first | (refine wpStill_step (fun K hK => ?_); go_simp; refine hK _ ?_; clear hK K; try go_ints))
  refine wpStill_nil ?_
  go_wp2_with fail
  go_ret
  exact ⟨rfl, rfl⟩

set_option maxHeartbeats 2000000 in
set_option maxRecDepth 100000 in
theorem expand_zero (key info : ByteArray) (W : World) :
    Calls Tryd.prog 25 #[.string key, .string info, .int .i64 0] W fun e w' => e = .returned (.tuple #[.string ⟨#[]⟩, .int .i64 0]) ∧ Below W.heap.size W w' := by
  have b2 := alloc_at (W.alloc (.cells #[.int .i64 0] 3)) (.cells #[.pointer none, .slice none 0 0] 83)
  have b1 := alloc_old (o' := (.cells #[.pointer none, .slice none 0 0] 83)) (alloc_at W (.cells #[.int .i64 0] 3))
  have B := hid (below_alloc (below_new (w := W) (.cells #[.int .i64 0] 3)) (.cells #[.pointer none, .slice none 0 0] 83))
  simp only [World.size_alloc] at b2
  obtain ⟨w2, hw2⟩ : ∃ w2, (W.alloc (.cells #[.int .i64 0] 3)).alloc (.cells #[.pointer none, .slice none 0 0] 83) = w2 := ⟨_, rfl⟩
  rw [hw2] at b1 b2 B
  have cn := cell_at b1 0
  have hst := hid (bstring_nil (W.heap.size + 1) (.pointer none) w2.drew b2)
  have HW := hid hw2
  clear b1 b2 hw2
  have d0 : decide ((0 : Int) < 0) = false := rfl
  go_enter Tryd.func25, Tryd.ntmps25
  go_wp2_with fail
  rw [HW.out]
  refine wp_region_two (by rfl) (by kernel_rfl) (by kernel_rfl) (by kernel_rfl) (by kernel_rfl) ?_ ?_
  · go_wp2_with fail
    refine hst.out.mono ?_
    rintro e w' ⟨rfl, rfl⟩
    go_wp2_with fail
    go_ret2
    exact ⟨rfl, B.out.drew.drew⟩
  · go_wp2_with fail
    refine hst.out.mono ?_
    rintro e w' ⟨rfl, rfl⟩
    go_wp2_with fail
    go_ret2
    exact ⟨rfl, B.out.drew.drew⟩

theorem expand_yes (key info : ByteArray) (N : Nat) (W : World) (hT : Tab W) (hk : key.size ≤ 68719476736) (hi : info.size ≤ 34359738368) (hN : N ≤ 8160) :
    Calls Tryd.prog 25 #[.string key, .string info, .int .i64 (N : Int)] W fun e w' => e = .returned (.tuple #[.string ⟨(HK.expand key.data.toList info.data.toList N).toArray⟩, .int .i64 0]) ∧ Below W.heap.size W w' := by
  cases N with
  | zero => exact expand_zero key info W
  | succ N => exact expand_pos key info (N + 1) W hT hk hi (by omega) hN

end Go.Proofs.YtejkimhmpnogkaaDoor
