/- The reference's Put: the walk. Both queues, beside each other. A region that draws its order, in which several operations make memory and several store: an invariant that knows which are done. -/
import Derived.Test.YtkmkgfgppblleaaM05
import Derived.Deep.Cut
import Derived.Deep.CutRange
import Derived.Test.YtkmkgfgppblleaaM03
namespace Go.Proofs.Ytkmkgfgppblleaa
open Go.RowKit FL

theorem u8V_set (B : List UInt8) (j : Nat) (c : UInt8) : (u8s B).toArray.setIfInBounds j (.int .u8 (c.toNat : Int)) = (u8s (B.set j c)).toArray := by
  unfold u8s
  rw [List.setIfInBounds_toArray, List.map_set]
theorem getD_set8 (l : List UInt8) (k i : Nat) (c : UInt8) : (l.set k c).getD i 0 = if i = k ∧ k < l.length then c else l.getD i 0 := by
  rw [List.getD_eq_getElem?_getD, List.getElem?_set, List.getD_eq_getElem?_getD]
  by_cases h : k = i
  · subst h
    by_cases h2 : k < l.length
    · simp [h2]
    · simp [h2]
  · rw [if_neg h, if_neg (by omega)]

section
variable {w : World} {R bi bb : Nat} {e : Int} {s : FS}
set_option maxHeartbeats 1000000 in
set_option maxRecDepth 100000 in
theorem rput_no_any (hq : RAt w R bi bb e s) (x : Nat) (d : ByteArray) (f : Bool) (h : (s.ended || decide (65536 < d.size)) = true) : Calls Try.prog 21 #[.pointer (some ⟨R, 0, none⟩), .int .u32 (x : Int), .string d, .bool f] w fun r w' => r = .returned (.bool false) ∧ Dr w w' := by
  have gR := hq.cells
  cases he : s.ended
  · rw [he] at h
    have d0 : 65536 < d.size := by simpa using h
    have d1 : decide (65536 < (d.size : Int)) = true := decide_eq_true (by omega)
    have cR0 : w.cell? ⟨R, 0, none⟩ = some (.int .u32 (s.next : Int)) := cell_at gR 0
    have cR1 : w.cell? ⟨R, 1, none⟩ = some (.int .i64 (s.size : Int)) := cell_at gR 1
    have cR2 : w.cell? ⟨R, 2, none⟩ = some (.string ⟨s.ready.toArray⟩) := cell_at gR 2
    have cR3 : w.cell? ⟨R, 3, none⟩ = some (.slice (some ⟨bi, 0, none⟩) (s.size + 1) (s.size + 1)) := cell_at gR 3
    have cR4 : w.cell? ⟨R, 4, none⟩ = some (.slice (some ⟨bb, 0, none⟩) (s.size + 1) (s.size + 1)) := cell_at gR 4
    have cR5 : w.cell? ⟨R, 5, none⟩ = some (.bool s.hasEnd) := cell_at gR 5
    have cR6 : w.cell? ⟨R, 6, none⟩ = some (.int .i64 e) := cell_at gR 6
    have cR7 : w.cell? ⟨R, 7, none⟩ = some (.bool s.ended) := cell_at gR 7
    have fR := free_at gR
    rw [he] at cR7
    go_enter Try.func21, Try.ntmps21
    go_wp2_with fail
    go_ret
    exact ⟨rfl, Dr.refl _⟩
  · have cR0 : w.cell? ⟨R, 0, none⟩ = some (.int .u32 (s.next : Int)) := cell_at gR 0
    have cR1 : w.cell? ⟨R, 1, none⟩ = some (.int .i64 (s.size : Int)) := cell_at gR 1
    have cR2 : w.cell? ⟨R, 2, none⟩ = some (.string ⟨s.ready.toArray⟩) := cell_at gR 2
    have cR3 : w.cell? ⟨R, 3, none⟩ = some (.slice (some ⟨bi, 0, none⟩) (s.size + 1) (s.size + 1)) := cell_at gR 3
    have cR4 : w.cell? ⟨R, 4, none⟩ = some (.slice (some ⟨bb, 0, none⟩) (s.size + 1) (s.size + 1)) := cell_at gR 4
    have cR5 : w.cell? ⟨R, 5, none⟩ = some (.bool s.hasEnd) := cell_at gR 5
    have cR6 : w.cell? ⟨R, 6, none⟩ = some (.int .i64 e) := cell_at gR 6
    have cR7 : w.cell? ⟨R, 7, none⟩ = some (.bool s.ended) := cell_at gR 7
    have fR := free_at gR
    rw [he] at cR7
    go_enter Try.func21, Try.ntmps21
    go_wp2_with fail
    go_ret
    exact ⟨rfl, Dr.refl _⟩

/-- The loop's state. -/
def RPutRel (w : World) (R bi bb : Nat) (e : Int) (s : FS) (x : Nat) (d : ByteArray) (i : Value) (wr : World) : Prop :=
  ∃ k : Nat, k ≤ d.size ∧ i = .int .i64 (k : Int) ∧ RAt wr R bi bb e { s with held := layK s x d.data.toList k } ∧ Out (REx R bi bb) w wr
theorem RPutRel.at {wr : World} {x : Nat} {d : ByteArray} {k : Nat} (hk : k < d.size) (h : RAt wr R bi bb e { s with held := layK s x d.data.toList (k + 1) }) (ho : Out (REx R bi bb) w wr) : RPutRel w R bi bb e s x d (.int .i64 ((k : Int) + 1)) wr ∧ (((d.size : Int) - intOf (.int .i64 ((k : Int) + 1))).toNat < ((d.size : Int) - intOf (.int .i64 (k : Int))).toNat) :=
  ⟨⟨k + 1, by omega, by simp, h, ho⟩, by simp only [intOf]; omega⟩
/-- A byte is laid. -/
theorem RAt.lay {l : List (Option UInt8)} (h : RAt w R bi bb e { s with held := l }) {A : Nat} {c : UInt8} (hA : A < l.length) (hl : l.length = s.size + 1) :
    RAt ((w.setCell ⟨bi, A, none⟩ (.bool true)).setCell ⟨bb, A, none⟩ (.int .u8 (c.toNat : Int))) R bi bb e { s with held := l.set A (some c) } := by
  obtain ⟨B, h1, h2, h3⟩ := h.b
  have g1 := hget_setCell_ne (hget_setCell_ne h.cells (p := ⟨bi, A, none⟩) h.ne1 (.bool true)) (p := ⟨bb, A, none⟩) h.ne2 (.int .u8 (c.toNat : Int))
  have g2 := hget_setCell_ne (hget_setCell h.is A (.bool true)) (p := ⟨bb, A, none⟩) h.ne3 (.int .u8 (c.toNat : Int))
  have g3 := hget_setCell (hget_setCell_ne h2 (p := ⟨bi, A, none⟩) (Ne.symm h.ne3) (.bool true)) A (.int .u8 (c.toNat : Int))
  have e2 := isV_set l A (some c)
  change (isV l).setIfInBounds A (.bool true) = _ at e2
  rw [e2] at g2
  rw [u8V_set] at g3
  refine ⟨g1, g2, ⟨B.set A c, by rw [List.length_set]; exact h1, g3, fun i c' hc => ?_⟩, h.ne1, h.ne2, h.ne3, h.fin⟩
  change (l.set A (some c)).getD i none = some c' at hc
  have h1' : B.length = s.size + 1 := h1
  rw [getD_set] at hc
  rw [getD_set8]
  by_cases hi : i = A ∧ A < l.length
  · rw [if_pos hi] at hc
    rw [if_pos ⟨hi.1, by omega⟩]
    exact Option.some.inj hc
  · rw [if_neg hi] at hc
    rw [if_neg (fun e => hi ⟨e.1, hA⟩)]
    exact h3 i c' hc

/-- An index within a row. (The walk's own rule unfolds what a bad index does, at which the kernel runs out of memory.) -/
theorem idx_at (t : TypeId) {e : TypeId} (hu : Try.prog.underlying t = some (.slice e)) (hs : ∀ w, (sizeOf e).run Try.prog w = .ok 1 w) (b A L : Nat) (k : IntKind) (h : A < L) (w : World) :
    (Instr.indexAt t (.slice (some ⟨b, 0, none⟩) L L) (.int k (A : Int))).run Try.prog w = .ok (.pointer (some ⟨b, A, none⟩)) w := by
  have he : Try.prog.elem t = e := by unfold Program.elem; rw [hu]
  rw [run_indexAt_slice w t _ _ _ _ _ (by rw [he]; exact hu), if_pos ⟨Int.natCast_nonneg A, by omega⟩, he, hs]
  simp [Result.andThen, Addr.add]
  exact fun e => e.symm
theorem size_bools (w : World) : (sizeOf 4).run Try.prog w = .ok 1 w := by kernel_rfl
theorem size_bytes (w : World) : (sizeOf 5).run Try.prog w = .ok 1 w := by kernel_rfl
theorem idx_str (t : TypeId) (hu : Try.prog.underlying t = some .string) (d : ByteArray) (j : Nat) (k : IntKind) (h : j < d.size) (w : World) :
    (Instr.index t (.string d) (.int k (j : Int))).run Try.prog w = .ok (.int .u8 (d[j].toNat : Int)) w := by
  rw [run_index_string w t d k _ hu, dif_pos ⟨Int.natCast_nonneg j, by omega⟩]
  simp
/-- One more that is not held. -/
theorem all_step (l : List (Option UInt8)) {E k : Nat} (h1 : E ≤ k) (h2 : k < l.length) : ((l.drop E).take (k + 1 - E)).all Option.isNone = (((l.drop E).take (k - E)).all Option.isNone && !(l.getD k none).isSome) := by
  have e : k + 1 - E = k - E + 1 := by omega
  have h3 : k - E < (l.drop E).length := by rw [List.length_drop]; omega
  rw [e, List.take_succ_eq_append_getElem h3, List.all_append]
  have h4 : (l.drop E)[k - E] = l.getD k none := by
    rw [List.getElem_drop, List.getD_eq_getElem?_getD, List.getElem?_eq_getElem h2]
    simp [Nat.add_sub_cancel' h1]
  rw [h4]
  cases l.getD k none <;> simp
/-- The end is told. -/
theorem RAt.ends {l : List (Option UInt8)} (h : RAt w R bi bb e { s with held := l }) (E : Nat) :
    RAt ((w.setCell ⟨R, 5, none⟩ (.bool true)).setCell ⟨R, 6, none⟩ (.int .i64 (E : Int))) R bi bb (E : Int) { s with held := l, hasEnd := s.hasEnd || true, endo := E } := by
  rw [Bool.or_true]
  have g1 := hget_setCell (hget_setCell h.cells 5 (.bool true)) 6 (.int .i64 (E : Int))
  have n1 : bi ≠ R := Ne.symm h.ne1
  have n2 : bb ≠ R := Ne.symm h.ne2
  obtain ⟨B, h1, h2, h3⟩ := h.b
  exact ⟨g1, hget_setCell_ne (hget_setCell_ne h.is (p := ⟨R, 5, none⟩) n1 _) (p := ⟨R, 6, none⟩) n1 _, ⟨B, h1, hget_setCell_ne (hget_setCell_ne h2 (p := ⟨R, 5, none⟩) n2 _) (p := ⟨R, 6, none⟩) n2 _, h3⟩, h.ne1, h.ne2, h.ne3, fun _ _ => rfl⟩
theorem slice_to (b L n : Nat) (h : n ≤ L) (w : World) : (Instr.sliceAt 24 (.slice (some ⟨b, 0, none⟩) L L) none (some (.int .i64 (n : Int))) none).run Try.prog w = .ok (.slice (some ⟨b, 0, none⟩) n L) w := by
  have hu := Try.underlying24
  have he : Try.prog.elem 24 = 5 := by unfold Program.elem; rw [hu]
  rw [run_sliceAt_slice w 24 _ _ _ _ (by rw [he]; exact hu), run_slice_h w 24 _ _ _ (by rw [he]; exact hu) _ _ (Int.natCast_nonneg n) (by omega), he, size_bytes]
  simp [Result.andThen, sliced]
  exact fun _ => rfl
attribute [-go_sem] run_indexAt_slice run_index_string run_sliceAt_slice run_string_add_if in
set_option maxHeartbeats 8000000 in
set_option maxRecDepth 100000 in
theorem rput_yes_any (hq : RAt w R bi bb e s) (hs : Inv s) (x : Nat) (hx : x < 4294967296) (d : ByteArray) (f : Bool) (hne : s.ended = false) (hd : d.size ≤ 65536) :
    Calls Try.prog 21 #[.pointer (some ⟨R, 0, none⟩), .int .u32 (x : Int), .string d, .bool f] w fun r w' => r = .returned (.bool (took s x d.data.toList f)) ∧ ∃ e', RAt w' R bi bb e' (put s x d.data.toList f) ∧ Out (REx R bi bb) w w' := by
  have gR := hq.cells
  have d1 : decide (65536 < (d.size : Int)) = false := decide_eq_false (by omega)
  have hw := win_le hs
  have hnx := hs.next
  have hsz := hs.size
  have hws := win_size hs
  have hlen := hs.len
  have hroom := hs.room
  have HQ := hid hq
  have HS := hid hs
  have hwin : (s.win : Int) % 4294967296 = (s.win : Int) := by omega
  clear hq hs
  have cR0 : w.cell? ⟨R, 0, none⟩ = some (.int .u32 (s.next : Int)) := cell_at gR 0
  have cR1 : w.cell? ⟨R, 1, none⟩ = some (.int .i64 (s.size : Int)) := cell_at gR 1
  have cR2 : w.cell? ⟨R, 2, none⟩ = some (.string ⟨s.ready.toArray⟩) := cell_at gR 2
  have cR3 : w.cell? ⟨R, 3, none⟩ = some (.slice (some ⟨bi, 0, none⟩) (s.size + 1) (s.size + 1)) := cell_at gR 3
  have cR4 : w.cell? ⟨R, 4, none⟩ = some (.slice (some ⟨bb, 0, none⟩) (s.size + 1) (s.size + 1)) := cell_at gR 4
  have cR5 : w.cell? ⟨R, 5, none⟩ = some (.bool s.hasEnd) := cell_at gR 5
  have cR6 : w.cell? ⟨R, 6, none⟩ = some (.int .i64 e) := cell_at gR 6
  have cR7 : w.cell? ⟨R, 7, none⟩ = some (.bool s.ended) := cell_at gR 7
  have fR := free_at gR
  rw [hne] at cR7
  go_enter Try.func21, Try.ntmps21
  go_wp2_with fail
  go_loopw [10] (fun i wr => RPutRel w R bi bb e s x d i wr) (fun i _ => (d.size - intOf i).toNat)
  case atStart => exact ⟨0, by omega, rfl, HQ.out, Out.refl _ _⟩
  case round =>
    obtain ⟨k, hk, rfl, hq, ho⟩ := hrel
    clear cR0 cR1 cR2 cR3 cR4 cR5 cR6 cR7 fR gR
    have gR : hget wr R = some (.cells #[.int .u32 (s.next : Int), .int .i64 (s.size : Int), .string ⟨s.ready.toArray⟩, .slice (some ⟨bi, 0, none⟩) (s.size + 1) (s.size + 1), .slice (some ⟨bb, 0, none⟩) (s.size + 1) (s.size + 1), .bool s.hasEnd, .int .i64 e, .bool s.ended] 48 (0, 0)) := hq.cells
    have cR0 : wr.cell? ⟨R, 0, none⟩ = some (.int .u32 (s.next : Int)) := cell_at gR 0
    have cR1 : wr.cell? ⟨R, 1, none⟩ = some (.int .i64 (s.size : Int)) := cell_at gR 1
    have cR2 : wr.cell? ⟨R, 2, none⟩ = some (.string ⟨s.ready.toArray⟩) := cell_at gR 2
    have cR3 : wr.cell? ⟨R, 3, none⟩ = some (.slice (some ⟨bi, 0, none⟩) (s.size + 1) (s.size + 1)) := cell_at gR 3
    have cR4 : wr.cell? ⟨R, 4, none⟩ = some (.slice (some ⟨bb, 0, none⟩) (s.size + 1) (s.size + 1)) := cell_at gR 4
    have cR5 : wr.cell? ⟨R, 5, none⟩ = some (.bool s.hasEnd) := cell_at gR 5
    have cR6 : wr.cell? ⟨R, 6, none⟩ = some (.int .i64 e) := cell_at gR 6
    have cR7 : wr.cell? ⟨R, 7, none⟩ = some (.bool s.ended) := cell_at gR 7
    have fR := free_at gR
    have hll : (layK s x d.data.toList k).length = s.size + 1 := (layK_len ..).trans hlen
    by_cases hkd : k < d.size
    · have hlt : decide ((k : Int) < d.size) = true := decide_eq_true (by omega)
      have hlay : layK s x d.data.toList (k + 1) = lay1 s (ofs ((x + k) % 4294967296) s.next) (d.data.toList.getD k 0) (layK s x d.data.toList k) := rfl
      have hN : ((x : Int) + k) % 4294967296 = (((x + k) % 4294967296 : Nat) : Int) := by omega
      have hNl : (x + k) % 4294967296 < 4294967296 := Nat.mod_lt _ (by decide)
      have hAi := ofs_int ((x + k) % 4294967296) s.next hnx
      have hAl := ofs_lt ((x + k) % 4294967296) s.next
      generalize (x + k) % 4294967296 = N at *
      generalize hA : ofs N s.next = A at *
      have gI : hget wr bi = some (.cells (isV (layK s x d.data.toList k)) 4 (0, 0)) := hq.is
      have HWM := hid (show Calls Try.prog 23 #[.pointer (some ⟨R, 0, none⟩)] wr (fun r w' => r = .returned (.int .i64 (s.win : Int)) ∧ Dr wr w') by have h := rwindow_any hq hroom hsz.2; exact h)
      have HQK := hid hq
      have HO := hid ho
      have HLAY := hid hlay
      clear hq ho hlay
      have hRi : (R = bi) = False := eq_false HQK.out.ne1
      have hRb : (R = bb) = False := eq_false HQK.out.ne2
      have hib : (bi = bb) = False := eq_false HQK.out.ne3
      have hiR : (bi = R) = False := eq_false (Ne.symm HQK.out.ne1)
      have hbR : (bb = R) = False := eq_false (Ne.symm HQK.out.ne2)
      have hbi : (bb = bi) = False := eq_false (Ne.symm HQK.out.ne3)
      by_cases c1 : A < s.win
      · have hAL : A < s.size + 1 := by omega
        obtain ⟨Ai, hAe⟩ : ∃ Ai : Int, (A : Int) = Ai := ⟨_, rfl⟩
        have hIX := idx_at 30 Try.underlying30 size_bools bi A (s.size + 1) .u32 hAL
        have hIB := idx_at 24 Try.underlying24 size_bytes bb A (s.size + 1) .u32 hAL
        rw [hAe] at hIX hIB hAi
        have hAi0 : 0 ≤ Ai := by omega
        have hAi1 : Ai < 4294967296 := by omega
        have dc1 : decide (Ai < (s.win : Int)) = true := decide_eq_true (by omega)
        obtain ⟨hb, hhb⟩ : ∃ hb, ((layK s x d.data.toList k).getD A none).isSome = hb := ⟨_, rfl⟩
        have cI : wr.cell? ⟨bi, A, none⟩ = some (.bool hb) := by rw [cell_at gI, isV_get (by omega), hhb]
        have fI := free_at gI
        obtain ⟨B, hB1, hB2, _⟩ := HQK.out.b
        have hB1' : B.length = s.size + 1 := hB1
        have cB : wr.cell? ⟨bb, A, none⟩ = some (.int .u8 ((B.getD A 0).toNat : Int)) := by
          rw [cell_at hB2]
          unfold u8s
          have : A < B.length := by omega
          simp [this]
        have fB := free_at hB2
        have HHB := hid hhb
        clear hhb gI hB1 hB1' hB2
        cases hb
        · obtain ⟨c, hc⟩ : ∃ c, d.data.toList.getD k 0 = c := ⟨_, rfl⟩
          have hIS := idx_str 9 Try.underlying9 d k .i64 hkd
          rw [show d[k]'hkd = c by rw [← hc]; exact getD_bytes hkd] at hIS
          have HC := hid hc
          have HNL := hid (show (layK s x d.data.toList k).getD A none = none by
            cases hx : (layK s x d.data.toList k).getD A none with
            | none => rfl
            | some c => have := HHB.out; rw [hx] at this; cases this)
          clear hc
          cases he : s.hasEnd
          · rw [he] at cR5
            have HE := hid he
            clear he
            have HAE := hid hAe; have HAL := hid hAL; have HC1 := hid c1; clear hAe hAl hA hAL c1
            go_wp2_with (go_at_call 23; refine HWM.out.mono ?_; rintro r w' ⟨rfl, nq, rfl⟩; simp only [])
            refine still_tail 9 (by kernel_rfl) (by kernel_rfl) ?_
            simp only [List.take_succ_cons, List.take_zero, List.drop_succ_cons, List.drop_zero]
            repeat (first | (refine wpStill_step (fun K hK => ?_); go_simp; refine hK _ ?_; clear hK K; try go_ints))
            refine wpStill_nil ?_
            go_wp2_with fail
            refine RPutRel.at hkd ?_ ((Out.setCell (p := ⟨bb, A, none⟩) (Out.setCell (p := ⟨bi, A, none⟩) HO.out (.inl (Or.inr (Or.inl rfl))) _) (.inl (Or.inr (Or.inr rfl))) _).drewN _)
            rw [HLAY.out, HC.out, lay1_new HC1.out HNL.out (fun e => by rw [HE.out] at e; cases e)]
            exact (HQK.out.lay (by have := HAL.out; omega) hll).dr ⟨_, rfl⟩
          · rw [he] at cR5
            have hee := HQ.out.fin he hne
            rw [hee] at cR6
            have HE := hid he
            clear he
            by_cases c3 : A < s.endo
            · have dc3 : decide (Ai < (s.endo : Int)) = true := decide_eq_true (by omega)
              have HAE := hid hAe; have HAL := hid hAL; have HC1 := hid c1; clear hAe hAl hA hAL c1
              go_wp2_with (go_at_call 23; refine HWM.out.mono ?_; rintro r w' ⟨rfl, nq, rfl⟩; simp only [])
              refine still_tail 9 (by kernel_rfl) (by kernel_rfl) ?_
              simp only [List.take_succ_cons, List.take_zero, List.drop_succ_cons, List.drop_zero]
              repeat (first | (refine wpStill_step (fun K hK => ?_); go_simp; refine hK _ ?_; clear hK K; try go_ints))
              refine wpStill_nil ?_
              go_wp2_with fail
              refine RPutRel.at hkd ?_ ((Out.setCell (p := ⟨bb, A, none⟩) (Out.setCell (p := ⟨bi, A, none⟩) HO.out (.inl (Or.inr (Or.inl rfl))) _) (.inl (Or.inr (Or.inr rfl))) _).drewN _)
              rw [HLAY.out, HC.out, lay1_new HC1.out HNL.out (fun _ => c3)]
              exact (HQK.out.lay (by have := HAL.out; omega) hll).dr ⟨_, rfl⟩
            · have dc3 : decide (Ai < (s.endo : Int)) = false := decide_eq_false (by omega)
              have HAE := hid hAe; have HAL := hid hAL; have HC1 := hid c1; clear hAe hAl hA hAL c1
              go_wp2_with (go_at_call 23; refine HWM.out.mono ?_; rintro r w' ⟨rfl, nq, rfl⟩; simp only [])
              refine RPutRel.at hkd ?_ (HO.out.drewN _)
              rw [HLAY.out, lay1_end HE.out c3]
              exact HQK.out.dr ⟨_, rfl⟩
        · have HAE := hid hAe; have HAL := hid hAL; have HC1 := hid c1; clear hAe hAl hA hAL c1
          go_wp2_with (go_at_call 23; refine HWM.out.mono ?_; rintro r w' ⟨rfl, nq, rfl⟩; simp only [])
          refine RPutRel.at hkd ?_ (HO.out.drewN _)
          rw [HLAY.out, lay1_held HHB.out]
          exact HQK.out.dr ⟨_, rfl⟩
      · have dc1 : decide ((A : Int) < s.win) = false := decide_eq_false (by omega)
        have dc1' : decide (A < s.win) = false := decide_eq_false c1
        go_wp2_with (go_at_call 23; refine HWM.out.mono ?_; rintro r w' ⟨rfl, nq, rfl⟩; simp only [])
        refine RPutRel.at hkd ?_ (HO.out.drewN _)
        rw [HLAY.out, lay1_out c1]
        exact HQK.out.dr ⟨_, rfl⟩
    · have hke : k = d.size := by omega
      subst hke
      have hlt : decide ((d.size : Int) < d.size) = false := decide_eq_false (by omega)
      obtain ⟨l, hl⟩ : ∃ l, layK s x d.data.toList d.size = l := ⟨_, rfl⟩
      rw [hl] at hll hq
      have hN : ((x : Int) + d.size) % 4294967296 = (((x + d.size) % 4294967296 : Nat) : Int) := by omega
      have hAi := ofs_int ((x + d.size) % 4294967296) s.next hnx
      have hAl := ofs_lt ((x + d.size) % 4294967296) s.next
      obtain ⟨E, hE⟩ : ∃ E, ofs ((x + d.size) % 4294967296) s.next = E := ⟨_, rfl⟩
      have HNE := hid hE
      rw [hE] at hAi hAl
      clear hE
      generalize (x + d.size) % 4294967296 = N at hN hAi
      obtain ⟨Ei, hEe⟩ : ∃ Ei : Int, (E : Int) = Ei := ⟨_, rfl⟩
      rw [hEe] at hAi
      have hEi0 : 0 ≤ Ei := by omega
      have hEi1 : Ei < 4294967296 := by omega
      have hwin1 : ((s.win : Int) + 1) % 4294967296 = (s.win : Int) + 1 := by omega
      have HWM := hid (show Calls Try.prog 23 #[.pointer (some ⟨R, 0, none⟩)] wr (fun r w' => r = .returned (.int .i64 (s.win : Int)) ∧ Dr wr w') by have h := rwindow_any hq hroom hsz.2; exact h)
      have HQK := hid hq
      have HO := hid ho
      have HLL := hid hll
      have HL := hid hl
      have HEE := hid hEe
      clear hq ho hll hl hEe
      go_upto_region 12 with fail
      rw [hAi]
      clear hAi hN
      go_cut [3, 116] from 101 to 116 (fun t3 t w' => t3 = .bool f ∧ t = .bool (f && !s.hasEnd && decide (E < s.win + 1)) ∧ Dr wr w')
      case first =>
        cases f
        · go_wp2_with fail
          go_meet
          case rel => exact ⟨rfl, rfl, Dr.refl _⟩
        · cases he : s.hasEnd
          · rw [he] at cR5
            by_cases c4 : E < s.win + 1
            · have dc4 : decide (Ei < (s.win : Int) + 1) = true := decide_eq_true (by have := HEE.out; omega)
              have dc4' : decide (E < s.win + 1) = true := decide_eq_true c4
              have HD := hid dc4'
              have HE := hid he
              clear dc4' c4 he
              go_wp2_with (go_at_call 23; refine HWM.out.mono ?_; rintro r w' ⟨rfl, nq, rfl⟩; simp only [])
              go_meet
              case rel => exact ⟨rfl, by rw [HE.out, HD.out]; rfl, ⟨_, rfl⟩⟩
            · have dc4 : decide (Ei < (s.win : Int) + 1) = false := decide_eq_false (by have := HEE.out; omega)
              have dc4' : decide (E < s.win + 1) = false := decide_eq_false c4
              have HD := hid dc4'
              have HE := hid he
              clear dc4' c4 he
              go_wp2_with (go_at_call 23; refine HWM.out.mono ?_; rintro r w' ⟨rfl, nq, rfl⟩; simp only [])
              go_meet
              case rel => exact ⟨rfl, by rw [HE.out, HD.out]; rfl, ⟨_, rfl⟩⟩
          · rw [he] at cR5
            have HE := hid he
            clear he
            go_wp2_with fail
            go_meet
            case rel => exact ⟨rfl, by rw [HE.out]; rfl, Dr.refl _⟩
      case rest =>
        obtain ⟨rfl, rfl, hdr⟩ := hcut
        have HQ2 := hid (HQK.out.dr hdr)
        have HO2 := hid (HO.out.then (Out.of_dr hdr))
        clear hdr HQK HO HWM cR0 cR1 cR2 cR3 cR4 cR5 cR6 cR7 fR gR
        obtain ⟨b0, hb0⟩ : ∃ b0, (f && !s.hasEnd && decide (E < s.win + 1)) = b0 := ⟨_, rfl⟩
        rw [hb0]
        have HB0 := hid hb0
        clear hb0
        have gR := HQ2.out.cells
        have cR0 : wc.cell? ⟨R, 0, none⟩ = some (.int .u32 (s.next : Int)) := cell_at gR 0
        have cR1 : wc.cell? ⟨R, 1, none⟩ = some (.int .i64 (s.size : Int)) := cell_at gR 1
        have cR2 : wc.cell? ⟨R, 2, none⟩ = some (.string ⟨s.ready.toArray⟩) := cell_at gR 2
        have cR3 : wc.cell? ⟨R, 3, none⟩ = some (.slice (some ⟨bi, 0, none⟩) (s.size + 1) (s.size + 1)) := cell_at gR 3
        have cR4 : wc.cell? ⟨R, 4, none⟩ = some (.slice (some ⟨bb, 0, none⟩) (s.size + 1) (s.size + 1)) := cell_at gR 4
        have cR5 : wc.cell? ⟨R, 5, none⟩ = some (.bool s.hasEnd) := cell_at gR 5
        have cR6 : wc.cell? ⟨R, 6, none⟩ = some (.int .i64 e) := cell_at gR 6
        have cR7 : wc.cell? ⟨R, 7, none⟩ = some (.bool s.ended) := cell_at gR 7
        have fR := free_at gR
        obtain ⟨b, hb⟩ : ∃ b, ends s l E f = b := ⟨_, rfl⟩
        have HLAID := hid (show laid s x d.data.toList f = { s with held := l, hasEnd := s.hasEnd || b, endo := if b then E else s.endo } by
          have hdl : d.data.toList.length = d.size := rfl
          unfold laid
          rw [hdl, HL.out]
          have hE' : ofs ((x + d.size) % 4294967296) s.next = E := HNE.out
          rw [hE']
          show ({ s with held := l, hasEnd := s.hasEnd || ends s l E f, endo := if ends s l E f then E else s.endo } : FS) = _
          rw [hb])
        have hb1 : b = (b0 && (l.drop E).all Option.isNone) := by rw [← hb, ← HB0.out]; rfl
        clear hb
        go_upto_if 116 with fail
        go_cut [] from 117 to 147 (fun w' => (∃ e', RAt w' R bi bb e' (laid s x d.data.toList f)) ∧ Out (REx R bi bb) w w')
        case first =>
          cases b0
          · have hb2 : b = false := by rw [hb1]; rfl
            subst hb2
            clear hb1
            go_wp2_with fail
            go_meet
            case rel =>
              refine ⟨⟨e, ?_⟩, HO2.out⟩
              rw [HLAID.out, Bool.or_false]
              exact HQ2.out
          · have h3 := HB0.out
            simp only [Bool.and_eq_true, Bool.not_eq_true', decide_eq_true_eq] at h3
            obtain ⟨⟨hf, hhe⟩, hEw⟩ := h3
            have HF := hid hf
            have HHE := hid hhe
            have hES : E ≤ s.size + 1 := by omega
            clear hf hhe hEw
            go_wp2_with fail
            go_loopw [13, 14] (fun fr i wq => ∃ k : Nat, E ≤ k ∧ k ≤ s.size + 1 ∧ i = .int .i64 (k : Int) ∧ fr = .bool (((l.drop E).take (k - E)).all Option.isNone) ∧ wq = wc) (fun _ i _ => ((s.size : Int) + 1 - intOf i).toNat)
            case atStart => exact ⟨E, Nat.le_refl _, hES, by rw [HEE.out], by rw [Nat.sub_self]; rfl, rfl⟩
            case round =>
              obtain ⟨k, hk1, hk2, rfl, rfl, rfl⟩ := hrel
              obtain ⟨fr, hfr⟩ : ∃ fr, ((l.drop E).take (k - E)).all Option.isNone = fr := ⟨_, rfl⟩
              rw [hfr]
              have HFR := hid hfr
              obtain ⟨Ki, hKe⟩ : ∃ Ki : Int, (k : Int) = Ki := ⟨_, rfl⟩
              rw [hKe]
              have hKi0 : 0 ≤ Ki := by omega
              have hKi1 : Ki < 65538 := by omega
              have HKE := hid hKe
              clear hfr
              by_cases hkl : k < s.size + 1
              · have dk : decide (Ki < (s.size : Int) + 1) = true := decide_eq_true (by omega)
                obtain ⟨hbk, hhb⟩ : ∃ hb, (l.getD k none).isSome = hb := ⟨_, rfl⟩
                have gI : hget wr bi = some (.cells (isV l) 4 (0, 0)) := HQ2.out.is
                have cI : wr.cell? ⟨bi, k, none⟩ = some (.bool hbk) := by rw [cell_at gI, isV_get (by have := HLL.out; omega), hhb]
                have hIX := idx_at 30 Try.underlying30 size_bools bi k (s.size + 1) .i64 hkl
                rw [hKe] at hIX
                have hst := all_step l hk1 (by have := HLL.out; omega : k < l.length)
                rw [HFR.out, hhb] at hst
                have HST := hid hst
                have HK := hid (⟨hk1, hkl⟩ : E ≤ k ∧ k < s.size + 1)
                clear hhb gI hst hKe hk1 hk2 hkl
                cases fr
                · go_wp2_with fail
                  have h1 := HK.out
                  have h2 := HKE.out
                  exact ⟨⟨k + 1, by omega, by omega, by rw [← h2]; rfl, by rw [HST.out]; rfl, trivial⟩, by simp only [intOf]; omega⟩
                · cases hbk
                  · go_wp2_with fail
                    have h1 := HK.out
                    have h2 := HKE.out
                    exact ⟨⟨k + 1, by omega, by omega, by rw [← h2]; rfl, by rw [HST.out]; rfl, trivial⟩, by simp only [intOf]; omega⟩
                  · go_wp2_with fail
                    have h1 := HK.out
                    have h2 := HKE.out
                    exact ⟨⟨k + 1, by omega, by omega, by rw [← h2]; rfl, by rw [HST.out]; rfl, trivial⟩, by simp only [intOf]; omega⟩
              · have dk : decide (Ki < (s.size : Int) + 1) = false := decide_eq_false (by omega)
                have hall : (l.drop E).all Option.isNone = fr := by
                  rw [← HFR.out, List.take_of_length_le]
                  rw [List.length_drop]
                  have := HLL.out
                  omega
                rw [hall] at hb1
                clear hKe hk1 hk2 hkl hall
                cases fr
                · have hb2 : b = false := hb1
                  subst hb2
                  clear hb1
                  go_wp2_with fail
                  go_meet
                  case rel =>
                    refine ⟨⟨e, ?_⟩, HO2.out⟩
                    rw [HLAID.out, Bool.or_false]
                    exact HQ2.out
                · have hb2 : b = true := hb1
                  subst hb2
                  clear hb1
                  go_wp2_with fail
                  go_meet
                  case rel =>
                    rw [← HEE.out]
                    refine ⟨⟨(E : Int), ?_⟩, Out.setCell (p := ⟨R, 6, none⟩) (Out.setCell (p := ⟨R, 5, none⟩) HO2.out (.inl (Or.inl rfl)) _) (.inl (Or.inl rfl)) _⟩
                    rw [HLAID.out, if_pos trivial]
                    exact HQ2.out.ends E
        case rest =>
          obtain ⟨⟨e2, hq3⟩, ho3⟩ := hcut
          have hcond : (s.ended || decide (65536 < d.data.toList.length)) = false := by rw [hne]; exact decide_eq_false (Nat.not_lt.2 hd)
          have hput : put s x d.data.toList f = FL.move (laid s x d.data.toList f) := put_eq hcond
          have hi2 := inv_laid HS.out hne x d.data.toList f
          have n2 : (laid s x d.data.toList f).next = s.next := rfl
          have n3 : (laid s x d.data.toList f).ended = false := hne
          have htk : took s x d.data.toList f = ((FL.move (laid s x d.data.toList f)).next != s.next) := by
            unfold took
            rw [hcond, hput]
            rfl
          have HPUT := hid hput
          have HTK := hid htk
          clear hput htk hcond
          generalize laid s x d.data.toList f = s2 at *
          rw [← n2] at HTK
          rw [← n2]
          have HQ3 := hid hq3
          have HO3 := hid ho3
          have HI2 := hid hi2
          clear ho3 hq3 HB0 hb1 HLAID HL HLL HEE HNE HQ2 HO2 cR0 cR1 cR2 cR3 cR4 cR5 cR6 cR7 fR gR HQ HS hw hws hlen hroom hsz hwin hwin1 hEi0 hEi1 hAl hnx hx hd d1 hlt hne hi2 hk
          have gR := HQ3.out.cells
          rw [n3] at gR
          have h5 := HI2.out.next
          have h6 := HI2.out.size
          have h7 := HI2.out.len
          obtain ⟨h8, h9⟩ := lead_win HI2.out
          have cR0 : wc.cell? ⟨R, 0, none⟩ = some (.int .u32 (s2.next : Int)) := cell_at gR 0
          have cR1 : wc.cell? ⟨R, 1, none⟩ = some (.int .i64 (s2.size : Int)) := cell_at gR 1
          have cR2 : wc.cell? ⟨R, 2, none⟩ = some (.string ⟨s2.ready.toArray⟩) := cell_at gR 2
          have cR3 : wc.cell? ⟨R, 3, none⟩ = some (.slice (some ⟨bi, 0, none⟩) (s2.size + 1) (s2.size + 1)) := cell_at gR 3
          have cR4 : wc.cell? ⟨R, 4, none⟩ = some (.slice (some ⟨bb, 0, none⟩) (s2.size + 1) (s2.size + 1)) := cell_at gR 4
          have cR5 : wc.cell? ⟨R, 5, none⟩ = some (.bool s2.hasEnd) := cell_at gR 5
          have cR6 : wc.cell? ⟨R, 6, none⟩ = some (.int .i64 e2) := cell_at gR 6
          have cR7 : wc.cell? ⟨R, 7, none⟩ = some (.bool false) := cell_at gR 7
          have fR := free_at gR
          go_wp2_with fail
          go_loopw [15] (fun i wq => ∃ k : Nat, k ≤ lead s2.held ∧ i = .int .i64 (k : Int) ∧ wq = wc) (fun i _ => ((s2.size : Int) + 1 - intOf i).toNat)
          case atStart => exact ⟨0, Nat.zero_le _, rfl, rfl⟩
          case round =>
            obtain ⟨k, hk, rfl, rfl⟩ := hrel
            obtain ⟨Ki, hKe⟩ : ∃ Ki : Int, (k : Int) = Ki := ⟨_, rfl⟩
            rw [hKe]
            have hKi0 : 0 ≤ Ki := by omega
            have hKi1 : Ki < 65538 := by omega
            have dk : decide (Ki < (s2.size : Int) + 1) = true := decide_eq_true (by omega)
            have hIX := idx_at 30 Try.underlying30 size_bools bi k (s2.size + 1) .i64 (by omega)
            rw [hKe] at hIX
            have cI := HQ3.out.is_at (i := k) (by omega)
            have HKE := hid hKe
            by_cases hkl : k < lead s2.held
            · rw [lead_some s2.held k hkl] at cI
              have HKL := hid hkl
              have H9 := hid (by omega : lead s2.held ≤ s2.size)
              clear hKe hkl hk h6 h7 h8 h9
              go_wp2_with fail
              have h1 := HKL.out
              have h2 := HKE.out
              have h3 := H9.out
              exact ⟨⟨k + 1, h1, by rw [← h2]; rfl, trivial⟩, by simp only [intOf]; omega⟩
            · have hke : k = lead s2.held := by omega
              have hst := lead_stop s2.held
              rw [← hke] at hst
              rw [hst] at cI
              have HKL := hid hke
              clear hst hke hkl
              have HN := hid (by omega : k ≤ s2.size ∧ k ≤ s2.held.length)
              have hSL := slice_to bb (s2.size + 1) k (by omega)
              rw [hKe] at hSL
              have hTX := (HQ3.out.drew).text h7 (n := k) (fun i hi => lead_some s2.held i (by rw [← HKL.out]; exact hi)) (by omega)
              have hRM := HI2.out.room
              have HLN := hid h7
              have hbl : (FL.bytes (s2.held.take k)).length = k := by rw [HKL.out]; exact bytes_len s2.held
              obtain ⟨SR, hSR⟩ : ∃ SR, (⟨s2.ready.toArray⟩ : ByteArray) = SR := ⟨_, rfl⟩
              obtain ⟨SB, hSB⟩ : ∃ SB, (⟨(FL.bytes (s2.held.take k)).toArray⟩ : ByteArray) = SB := ⟨_, rfl⟩
              have hszz : SR.size ≤ 65536 ∧ SB.size ≤ 65536 := by
                have h1 : SR.size = s2.ready.length := by rw [← hSR]; simp [ByteArray.size]
                have h2 : SB.size = (FL.bytes (s2.held.take k)).length := by rw [← hSB]; simp [ByteArray.size]
                omega
              have hADD := fun w => run_string_add_sum (P := Try.prog) (w := w) SR SB (by omega)
              rw [hSR] at cR2
              rw [hSB] at hTX
              have HSR := hid hSR
              have HSB := hid hSB
              clear hSR hSB
              clear hKe hk hbl h7
              go_wp2_with fail
              refine still_tail 15 (by kernel_rfl) (by kernel_rfl) ?_
              simp only [List.take_succ_cons, List.take_zero, List.drop_succ_cons, List.drop_zero]
              repeat (first | (refine wpStill_step (fun K hK => ?_); go_simp; refine hK _ ?_; clear hK K; try go_ints))
              refine wpStill_nil ?_
              go_wp2_with fail
              rw [← HSR.out, ← HSB.out, str_app]
              obtain ⟨T, hT⟩ : ∃ T, s2.ready ++ FL.bytes (s2.held.take k) = T := ⟨_, rfl⟩
              rw [hT]
              have HT := hid hT
              have HQ4 := hid ((HQ3.out.drew).ready' T)
              have HO4 := hid (Out.setCell (p := ⟨R, 2, none⟩) HO3.out.drew (.inl (Or.inl rfl)) (.string ⟨T.toArray⟩))
              clear hT hTX hSL hIX dk cI hszz hADD hRM cR0 cR1 cR2 cR3 cR4 cR5 cR6 cR7 fR gR HQ3 HO3
              go_loopw [16] (fun i wq => ∃ j : Nat, j ≤ s2.size + 1 ∧ i = .int .i64 (j : Int) ∧ RAt wq R bi bb e2 { s2 with held := shiftK s2.held k j, ready := T } ∧ Out (REx R bi bb) w wq) (fun i _ => ((s2.size : Int) + 1 - intOf i).toNat)
              case atStart => exact ⟨0, Nat.zero_le _, rfl, by rw [shiftK_zero]; exact HQ4.out, HO4.out⟩
              case round =>
                clear HQ4 HO4
                obtain ⟨j, hj, rfl, hq5, ho5⟩ := hrel
                have gR : hget wr R = some (.cells #[.int .u32 (s2.next : Int), .int .i64 (s2.size : Int), .string ⟨T.toArray⟩, .slice (some ⟨bi, 0, none⟩) (s2.size + 1) (s2.size + 1), .slice (some ⟨bb, 0, none⟩) (s2.size + 1) (s2.size + 1), .bool s2.hasEnd, .int .i64 e2, .bool s2.ended] 48 (0, 0)) := hq5.cells
                rw [n3] at gR
                have cR0 : wr.cell? ⟨R, 0, none⟩ = some (.int .u32 (s2.next : Int)) := cell_at gR 0
                have cR1 : wr.cell? ⟨R, 1, none⟩ = some (.int .i64 (s2.size : Int)) := cell_at gR 1
                have cR2 : wr.cell? ⟨R, 2, none⟩ = some (.string ⟨T.toArray⟩) := cell_at gR 2
                have cR3 : wr.cell? ⟨R, 3, none⟩ = some (.slice (some ⟨bi, 0, none⟩) (s2.size + 1) (s2.size + 1)) := cell_at gR 3
                have cR4 : wr.cell? ⟨R, 4, none⟩ = some (.slice (some ⟨bb, 0, none⟩) (s2.size + 1) (s2.size + 1)) := cell_at gR 4
                have cR5 : wr.cell? ⟨R, 5, none⟩ = some (.bool s2.hasEnd) := cell_at gR 5
                have cR6 : wr.cell? ⟨R, 6, none⟩ = some (.int .i64 e2) := cell_at gR 6
                have cR7 : wr.cell? ⟨R, 7, none⟩ = some (.bool false) := cell_at gR 7
                have fR := free_at gR
                obtain ⟨Ji, hJe⟩ : ∃ Ji : Int, (j : Int) = Ji := ⟨_, rfl⟩
                rw [hJe]
                have hJi0 : 0 ≤ Ji := by omega
                have hJi1 : Ji < 65538 := by omega
                have HJE := hid hJe
                have HQ5 := hid hq5
                have HO5 := hid ho5
                clear hq5 ho5
                by_cases hjl : j < s2.size + 1
                · have dj : decide (Ji < (s2.size : Int) + 1) = true := decide_eq_true (by omega)
                  have hlen : (shiftK s2.held k j).length = s2.size + 1 := (shiftK_len HN.out.2 (by have := HLN.out; omega)).trans HLN.out
                  obtain ⟨bj, hbj⟩ : ∃ b, ((shiftK s2.held k j).getD j none).isSome = b := ⟨_, rfl⟩
                  have cJ : wr.cell? ⟨bi, j, none⟩ = some (.bool bj) := by
                    have h := HQ5.out.is_at (i := j) (by show j < (shiftK s2.held k j).length; omega)
                    change _ = some (Value.bool ((shiftK s2.held k j).getD j none).isSome) at h
                    rw [h, hbj]
                  have hIJ := idx_at 30 Try.underlying30 size_bools bi j (s2.size + 1) .i64 hjl
                  have hBJ := idx_at 24 Try.underlying24 size_bytes bb j (s2.size + 1) .i64 hjl
                  rw [hJe] at hIJ hBJ
                  have fI := free_at HQ5.out.is
                  have HLEN := hid hlen
                  have hst := shiftK_step (n := k) (k := j) HN.out.2 (by have := HLN.out; omega)
                  have hgt := shiftK_get (l := s2.held) (n := k) (k := j) (i := j + k) HN.out.2 (by have := HLN.out; omega) (Nat.le_add_right _ _)
                  obtain ⟨v, hv⟩ : ∃ v, s2.held.getD (j + k) none = v := ⟨_, rfl⟩
                  rw [hv] at hst hgt
                  have HST := hid hst
                  have HJL := hid hjl
                  have hRi : (R = bi) = False := eq_false HQ5.out.ne1
                  have hRb : (R = bb) = False := eq_false HQ5.out.ne2
                  have hib : (bi = bb) = False := eq_false HQ5.out.ne3
                  have hiR : (bi = R) = False := eq_false (Ne.symm HQ5.out.ne1)
                  have hbR : (bb = R) = False := eq_false (Ne.symm HQ5.out.ne2)
                  have hbi : (bb = bi) = False := eq_false (Ne.symm HQ5.out.ne3)
                  by_cases hjk : j + k < s2.size + 1
                  · have djk : decide (Ji + Ki < (s2.size : Int) + 1) = true := decide_eq_true (by have := HKE.out; omega)
                    have cJK : wr.cell? ⟨bi, j + k, none⟩ = some (.bool v.isSome) := by
                      have h := HQ5.out.is_at (i := j + k) (by show j + k < (shiftK s2.held k j).length; omega)
                      change _ = some (Value.bool ((shiftK s2.held k j).getD (j + k) none).isSome) at h
                      rw [h, hgt]
                    have hIK := idx_at 30 Try.underlying30 size_bools bi (j + k) (s2.size + 1) .i64 hjk
                    have hBK := idx_at 24 Try.underlying24 size_bytes bb (j + k) (s2.size + 1) .i64 hjk
                    rw [Int.natCast_add, hJe, HKE.out] at hIK hBK
                    cases v with
                    | none =>
                      clear hlen hbj hst hgt hv hjl hjk hJe hj h5 h6 h8 h9
                      go_wp2_with fail
                      refine still_tail 26 (by kernel_rfl) (by kernel_rfl) ?_
                      simp only [List.take_succ_cons, List.take_zero, List.drop_succ_cons, List.drop_zero]
                      repeat (first | (refine wpStill_step (fun K hK => ?_); go_simp; refine hK _ ?_; clear hK K; try go_ints))
                      refine wpStill_nil ?_
                      go_wp2_with fail
                      have h1 := HJL.out
                      have h2 := HJE.out
                      exact ⟨⟨j + 1, by omega, by rw [← h2]; rfl, by rw [HST.out]; exact RAt.unlay (s := { s2 with ready := T }) HQ5.out.drew j, Out.setCell (p := ⟨bi, j, none⟩) HO5.out.drew (.inl (Or.inr (Or.inl rfl))) _⟩, by simp only [intOf]; omega⟩
                    | some c =>
                      obtain ⟨B, hB1, hB2, hB3⟩ := HQ5.out.b
                      have cBK : wr.cell? ⟨bb, j + k, none⟩ = some (.int .u8 (c.toNat : Int)) := HQ5.out.byte (i := j + k) (c := c) hgt hjk
                      have cBJ : wr.cell? ⟨bb, j, none⟩ = some (.int .u8 ((B.getD j 0).toNat : Int)) := by
                        rw [cell_at hB2]
                        unfold u8s
                        have : j < B.length := by rw [hB1]; exact hjl
                        simp [this]
                      have fB := free_at hB2
                      clear hlen hbj hst hgt hv hjl hjk hJe hj h5 h6 h8 h9 hB1 hB2 hB3
                      go_wp2_with fail
                      refine still_tail 26 (by kernel_rfl) (by kernel_rfl) ?_
                      simp only [List.take_succ_cons, List.take_zero, List.drop_succ_cons, List.drop_zero]
                      repeat (first | (refine wpStill_step (fun K hK => ?_); go_simp; refine hK _ ?_; clear hK K; try go_ints))
                      refine wpStill_nil ?_
                      go_wp2_with fail
                      refine still_tail 15 (by kernel_rfl) (by kernel_rfl) ?_
                      simp only [List.take_succ_cons, List.take_zero, List.drop_succ_cons, List.drop_zero]
                      repeat (first | (refine wpStill_step (fun K hK => ?_); go_simp; refine hK _ ?_; clear hK K; try go_ints))
                      refine wpStill_nil ?_
                      go_wp2_with fail
                      have h1 := HJL.out
                      have h2 := HJE.out
                      exact ⟨⟨j + 1, by omega, by rw [← h2]; rfl, by rw [HST.out]; exact (RAt.lay (s := { s2 with ready := T }) HQ5.out.drew (A := j) (c := c) (by have := HLEN.out; omega) HLEN.out).dr ⟨1, rfl⟩, Out.setCell (p := ⟨bb, j, none⟩) (Out.setCell (p := ⟨bi, j, none⟩) HO5.out.drew (.inl (Or.inr (Or.inl rfl))) _).drew (.inl (Or.inr (Or.inr rfl))) _⟩, by simp only [intOf]; omega⟩
                  · have djk : decide (Ji + Ki < (s2.size : Int) + 1) = false := decide_eq_false (by have := HKE.out; omega)
                    have hv2 : v = none := by
                      rw [← hv, List.getD_eq_getElem?_getD, List.getElem?_eq_none (by have := HLN.out; omega)]
                      rfl
                    subst hv2
                    clear hlen hbj hst hgt hv hjl hjk hJe hj h5 h6 h8 h9
                    go_wp2_with fail
                    have jR3 := later_cell cR3
                    refine wp_region_later_tail 26 (by kernel_rfl) (by kernel_rfl) ?_
                    simp only [List.take_succ_cons, List.take_zero, List.drop_succ_cons, List.drop_zero]
                    repeat ((go_big_quiet_step (fail)))
                    refine wpQuiet_nil ?_
                    intro wL hwL
                    obtain ⟨⟨w8, hL⟩, e8⟩ := hwL
                    change wL = w8 at e8
                    subst e8
                    have HQ6 := hid (HQ5.out.below hL)
                    have HO6 := hid (HO5.out.then (Out.of_below hL))
                    have cJ2 : wL.cell? ⟨bi, j, none⟩ = some (.bool bj) := later_cell cJ ⟨_, hL⟩
                    clear cR0 cR1 cR2 cR3 cR4 cR5 cR6 cR7 fR gR cJ fI jR3 hL HQ5 HO5
                    have gR : hget wL R = some (.cells #[.int .u32 (s2.next : Int), .int .i64 (s2.size : Int), .string ⟨T.toArray⟩, .slice (some ⟨bi, 0, none⟩) (s2.size + 1) (s2.size + 1), .slice (some ⟨bb, 0, none⟩) (s2.size + 1) (s2.size + 1), .bool s2.hasEnd, .int .i64 e2, .bool s2.ended] 48 (0, 0)) := HQ6.out.cells
                    rw [n3] at gR
                    have cR0 : wL.cell? ⟨R, 0, none⟩ = some (.int .u32 (s2.next : Int)) := cell_at gR 0
                    have cR1 : wL.cell? ⟨R, 1, none⟩ = some (.int .i64 (s2.size : Int)) := cell_at gR 1
                    have cR2 : wL.cell? ⟨R, 2, none⟩ = some (.string ⟨T.toArray⟩) := cell_at gR 2
                    have cR3 : wL.cell? ⟨R, 3, none⟩ = some (.slice (some ⟨bi, 0, none⟩) (s2.size + 1) (s2.size + 1)) := cell_at gR 3
                    have cR4 : wL.cell? ⟨R, 4, none⟩ = some (.slice (some ⟨bb, 0, none⟩) (s2.size + 1) (s2.size + 1)) := cell_at gR 4
                    have cR5 : wL.cell? ⟨R, 5, none⟩ = some (.bool s2.hasEnd) := cell_at gR 5
                    have cR6 : wL.cell? ⟨R, 6, none⟩ = some (.int .i64 e2) := cell_at gR 6
                    have cR7 : wL.cell? ⟨R, 7, none⟩ = some (.bool false) := cell_at gR 7
                    have fR := free_at gR
                    have fI := free_at HQ6.out.is
                    go_wp2_with fail
                    have h1 := HJL.out
                    have h2 := HJE.out
                    exact ⟨⟨j + 1, by omega, by rw [← h2]; rfl, by rw [HST.out]; exact RAt.unlay (s := { s2 with ready := T }) HQ6.out j, Out.setCell (p := ⟨bi, j, none⟩) HO6.out (.inl (Or.inr (Or.inl rfl))) _⟩, by simp only [intOf]; omega⟩
                · have dj : decide (Ji < (s2.size : Int) + 1) = false := decide_eq_false (by omega)
                  obtain rfl : j = s2.size + 1 := by omega
                  have HAll := hid (show shiftK s2.held k (s2.size + 1) = s2.held.drop k ++ List.replicate k none by rw [← HLN.out]; exact shiftK_all HN.out.2)
                  obtain ⟨nx, hnx⟩ : ∃ nx, (s2.next + k) % 4294967296 = nx := ⟨_, rfl⟩
                  have hNx : ((s2.next : Int) + Ki) % 4294967296 = (nx : Int) := by have := HKE.out; omega
                  have hnl : (nx : Int) < 4294967296 := by omega
                  have HNX := hid hnx
                  have HNX2 := hid (show ((s.next : Int) + Ki) % 4294967296 = (nx : Int) by rw [← n2]; exact hNx)
                  clear hnx hjl hj hJe h8 h9
                  cases he : s2.hasEnd
                  · rw [he] at cR5
                    have HE := hid he
                    clear he
                    go_wp2_with fail
                    go_ret
                    rw [HNX2.out]
                    have hmv : FL.move s2 = { s2 with next := nx, ready := T, held := s2.held.drop k ++ List.replicate k none, endo := s2.endo - k, ended := false } := by
                      rw [move_eq HKL.out HT.out, HE.out]
                      simp only [Bool.false_and, Bool.false_eq_true, if_false, HNX.out]
                    refine ⟨?_, wrap64 (e2 - Ki), ?_, ?_⟩
                    · rw [HTK.out, hmv]
                      exact congrArg (fun b => Ending.returned (Value.bool b)) ((bne_cast2 rfl).trans (by rw [n2]))
                    · have hq := HQ5.out
                      rw [HAll.out] at hq
                      rw [HPUT.out, hmv]
                      exact hq.told (dn := false) (hget_setCell (hget_setCell gR 0 _) 6 _) (((Out.refl (fun k => k = R) _).setCell (p := ⟨R, 0, none⟩) (.inl rfl) _).setCell (p := ⟨R, 6, none⟩) (.inl rfl) _) (fun h => by rw [show s2.hasEnd = false from HE.out] at h; cases h)
                    · exact Out.setCell (p := ⟨R, 6, none⟩) (Out.setCell (p := ⟨R, 0, none⟩) HO5.out (.inl (Or.inl rfl)) _) (.inl (Or.inl rfl)) _
                  · rw [he] at cR5
                    have hee := HQ5.out.fin he n3
                    have hke := lead_end HI2.out he n3
                    rw [← HKL.out] at hke
                    change e2 = (s2.endo : Int) at hee
                    obtain ⟨Eo, hEo⟩ : ∃ Eo : Int, (s2.endo : Int) = Eo := ⟨_, rfl⟩
                    rw [hee, hEo] at cR6
                    have HE := hid he
                    have hd0 : 0 ≤ Eo - Ki := by have := HKE.out; omega
                    have hd1 : Eo - Ki < 4294967296 := by have := HKE.out; have := (HI2.out.behind he n3).1; have := win_le HI2.out; omega
                    have HEO := hid hEo
                    have HKN := hid hke
                    obtain ⟨Di, hDi⟩ : ∃ Di : Int, Eo - Ki = Di := ⟨_, rfl⟩
                    rw [hDi] at hd0 hd1
                    clear he hee hke hEo
                    by_cases hz : s2.endo = k
                    · have hz0 : Di = 0 := by have := HKE.out; have := HEO.out; omega
                      subst hz0
                      have HZ := hid hz
                      clear hz hd0 hd1
                      go_wp2_with fail
                      go_ret
                      have hnx2 : ((s.next : Int) + Ki + 1) % 4294967296 = ((((s2.next + k) % 4294967296 + 1) % 4294967296 : Nat) : Int) := by have := HKE.out; rw [n2]; omega
                      rw [hnx2, HNX2.out]
                      have hmv : FL.move s2 = { s2 with next := ((s2.next + k) % 4294967296 + 1) % 4294967296, ready := T, held := s2.held.drop k ++ List.replicate k none, endo := 0, ended := true } := by
                        rw [move_eq HKL.out HT.out, HE.out, HZ.out, decide_eq_true rfl]
                        simp only [Bool.and_true, if_true, Nat.sub_self]
                      generalize ((s2.next + k) % 4294967296 + 1) % 4294967296 = nx2 at *
                      refine ⟨?_, 0, ?_, ?_⟩
                      · rw [HTK.out, hmv]
                        exact congrArg (fun b => Ending.returned (Value.bool b)) ((bne_cast2 rfl).trans (by rw [n2]))
                      · have hq := HQ5.out
                        rw [HAll.out] at hq
                        rw [HPUT.out, hmv]
                        exact hq.told (dn := true) (hget_setCell (hget_setCell (hget_setCell (hget_setCell gR 0 _) 6 _) 7 _) 0 _) (((((Out.refl (fun k => k = R) _).setCell (p := ⟨R, 0, none⟩) (.inl rfl) _).setCell (p := ⟨R, 6, none⟩) (.inl rfl) _).setCell (p := ⟨R, 7, none⟩) (.inl rfl) _).setCell (p := ⟨R, 0, none⟩) (.inl rfl) _) (fun _ h => by cases h)
                      · exact Out.setCell (p := ⟨R, 0, none⟩) (Out.setCell (p := ⟨R, 7, none⟩) (Out.setCell (p := ⟨R, 6, none⟩) (Out.setCell (p := ⟨R, 0, none⟩) HO5.out (.inl (Or.inl rfl)) _) (.inl (Or.inl rfl)) _) (.inl (Or.inl rfl)) _) (.inl (Or.inl rfl)) _
                    · have hz0 : (Di == 0) = false := beq_eq_false_iff_ne.2 (by have := HKE.out; have := HEO.out; omega)
                      have hz1 : ¬ Di = 0 := beq_eq_false_iff_ne.1 hz0
                      have HZ := hid hz
                      clear hz
                      go_wp2_with fail
                      go_ret
                      rw [HNX2.out]
                      have hmv : FL.move s2 = { s2 with next := nx, ready := T, held := s2.held.drop k ++ List.replicate k none, endo := s2.endo - k, ended := false } := by
                        rw [move_eq HKL.out HT.out, HE.out, decide_eq_false HZ.out]
                        simp only [Bool.and_false, Bool.false_eq_true, if_false, HNX.out]
                      have hdi : Di = ((s2.endo - k : Nat) : Int) := by have h1 := HKE.out; have h2 := HEO.out; have h3 := HKN.out; omega
                      refine ⟨?_, Di, ?_, ?_⟩
                      · rw [HTK.out, hmv]
                        exact congrArg (fun b => Ending.returned (Value.bool b)) ((bne_cast2 rfl).trans (by rw [n2]))
                      · have hq := HQ5.out
                        rw [HAll.out] at hq
                        rw [HPUT.out, hmv]
                        exact hq.told (dn := false) (hget_setCell (hget_setCell gR 0 _) 6 _) (((Out.refl (fun k => k = R) _).setCell (p := ⟨R, 0, none⟩) (.inl rfl) _).setCell (p := ⟨R, 6, none⟩) (.inl rfl) _) (fun _ _ => hdi)
                      · exact Out.setCell (p := ⟨R, 6, none⟩) (Out.setCell (p := ⟨R, 0, none⟩) HO5.out (.inl (Or.inl rfl)) _) (.inl (Or.inl rfl)) _
end
end Go.Proofs.Ytkmkgfgppblleaa

namespace Go.Proofs.Ytkmkgfgppblleaa
open Go.RowKit FL

theorem rput_any {w : World} {R bi bb : Nat} {e : Int} {s : FS} (hq : RAt w R bi bb e s) (hs : Inv s) (x : Nat) (hx : x < 4294967296) (d : ByteArray) (f : Bool) :
    Calls Try.prog 21 #[.pointer (some ⟨R, 0, none⟩), .int .u32 (x : Int), .string d, .bool f] w fun r w' => r = .returned (.bool (took s x d.data.toList f)) ∧ ∃ e', RAt w' R bi bb e' (put s x d.data.toList f) ∧ Out (REx R bi bb) w w' := by
  have hl : d.data.toList.length = d.size := by simp
  cases h : (s.ended || decide (65536 < d.size))
  · have hne : s.ended = false := by cases he : s.ended <;> rw [he] at h <;> first | rfl | cases h
    have hd : d.size ≤ 65536 := by rw [hne] at h; simpa using h
    exact rput_yes_any hq hs x hx d f hne hd
  · have h2 : (s.ended || decide (65536 < d.data.toList.length)) = true := by rw [hl]; exact h
    refine (rput_no_any hq x d f h).mono ?_
    rintro r w' ⟨rfl, hd⟩
    rw [put_no h2]
    refine ⟨?_, e, hq.dr hd, Out.of_dr hd⟩
    unfold took
    rw [if_pos h2]

/-- Both queues, behind W, and what stands beside them. -/
def Two (W w : World) (P M R bi bb : Nat) (s t : FS) (E : List (Nat × Obj)) : Prop :=
  ∃ rv en e, QAt w P M rv en s ∧ Inv s ∧ RAt w R bi bb e t ∧ Inv t ∧ (∀ k, QEx P M rv k → W.heap.size ≤ k) ∧ (∀ k, REx R bi bb k → W.heap.size ≤ k ∧ ¬ QEx P M rv k) ∧ Below W.heap.size W w ∧ ∀ p ∈ E, hget w p.1 = some p.2 ∧ ¬ QEx P M rv p.1 ∧ ¬ REx R bi bb p.1
section
variable {W w w' : World} {P M R bi bb : Nat} {s t : FS} {E : List (Nat × Obj)}
theorem Two.of (h : QBeh W w P M s E) {e : Int} (hR : RAt w' R bi bb e t) (ht : Inv t) (hb : Below w.heap.size w w') (hk : ∀ k, REx R bi bb k → w.heap.size ≤ k) : Two W w' P M R bi bb s t E := by
  obtain ⟨rv, en, h1, h2, h3, h4, h5⟩ := h
  refine ⟨rv, en, e, h1.below hb, h2, hR, ht, h3, fun k hk2 => ⟨?_, fun hq => ?_⟩, below_to h4 hb, fun p hp => ⟨(Out.of_below (ex := fun _ => False) hb).get (h5 p hp).1 (fun e => e), (h5 p hp).2, fun hr => ?_⟩⟩
  · have := hk k hk2; have := h4.size; omega
  · have := hk k hk2; have := h1.lt k hq; omega
  · have := hk _ hr; have := hget_lt (h5 p hp).1; omega
theorem Two.below (h : Two W w P M R bi bb s t E) (hd : Below w.heap.size w w') : Two W w' P M R bi bb s t E := by
  obtain ⟨rv, en, e, h1, h2, h3, h4, h5, h6, h7, h8⟩ := h
  exact ⟨rv, en, e, h1.below hd, h2, h3.below hd, h4, h5, h6, below_to h7 hd, fun p hp => ⟨(Out.of_below (ex := fun _ => False) hd).get (h8 p hp).1 (fun e => e), (h8 p hp).2⟩⟩
theorem Two.dr (h : Two W w P M R bi bb s t E) (hd : Dr w w') : Two W w' P M R bi bb s t E := by
  obtain ⟨n, rfl⟩ := hd
  exact h.below (Dr.below (w := w) ⟨n, rfl⟩)
theorem Two.old (h : Two W w P M R bi bb s t E) : Below W.heap.size W w := by obtain ⟨rv, en, e, h1, h2, h3, h4, h5, h6, h7, h8⟩ := h; exact h7
theorem Two.get (h : Two W w P M R bi bb s t E) {b : Nat} {o : Obj} (hm : (b, o) ∈ E) : hget w b = some o := by obtain ⟨rv, en, e, h1, h2, h3, h4, h5, h6, h7, h8⟩ := h; exact (h8 _ hm).1
theorem Two.less (h : Two W w P M R bi bb s t E) {E' : List (Nat × Obj)} (hE : ∀ p ∈ E', p ∈ E) : Two W w P M R bi bb s t E' := by
  obtain ⟨rv, en, e, h1, h2, h3, h4, h5, h6, h7, h8⟩ := h
  exact ⟨rv, en, e, h1, h2, h3, h4, h5, h6, h7, fun p hp => h8 p (hE p hp)⟩
theorem Two.make (h : Two W w P M R bi bb s t E) (o : Obj) {o' : Obj} (ho : hget (w.alloc o) w.heap.size = some o') : Two W (w.alloc o) P M R bi bb s t ((w.heap.size, o') :: E) := by
  obtain ⟨rv, en, e, h1, h2, h3, h4, h5, h6, h7, h8⟩ := h
  have hd := below_new (w := w) o
  refine ⟨rv, en, e, h1.below hd, h2, h3.below hd, h4, h5, h6, below_to h7 hd, fun p hp => ?_⟩
  rcases List.mem_cons.1 hp with rfl | hp
  · refine ⟨ho, fun hk => ?_, fun hk => ?_⟩
    · have := h1.lt _ hk; omega
    · have := h3.lt _ hk; omega
  · exact ⟨(Out.of_below (ex := fun _ => False) hd).get (h8 p hp).1 (fun e => e), (h8 p hp).2⟩
theorem two_q {rv rv' : Value} {en en' e : Int} {s' : FS} (_h1 : QAt w P M rv en s) (h3 : RAt w R bi bb e t) (h4 : Inv t) (h5 : ∀ k, QEx P M rv k → W.heap.size ≤ k) (h6 : ∀ k, REx R bi bb k → W.heap.size ≤ k ∧ ¬ QEx P M rv k) (h7 : Below W.heap.size W w) (h8 : ∀ p ∈ E, hget w p.1 = some p.2 ∧ ¬ QEx P M rv p.1 ∧ ¬ REx R bi bb p.1)
    (hi : Inv s') (hq : QAt w' P M rv' en' s') (ho : Out (QEx P M rv) w w') (hn : Near w rv rv') : Two W w' P M R bi bb s' t E := by
  have key : ∀ k, QEx P M rv' k → QEx P M rv k ∨ w.heap.size ≤ k := fun k hk => by
    rcases hk with hk | hk | hk
    · exact .inl (.inl hk)
    · exact .inl (.inr (.inl hk))
    · rcases hn with h | ⟨g, h, hg⟩
      · exact .inl (.inr (.inr (by rw [← h]; exact hk)))
      · rw [h] at hk; injection hk with hk; exact .inr (by omega)
  refine ⟨rv', en', e, hq, hi, h3.out ho (fun k hk => (h6 k hk).2), h4, fun k hk => ?_, fun k hk => ⟨(h6 k hk).1, fun hq2 => ?_⟩, h7.trans (ho.below h5 h7.size), fun p hp => ⟨ho.get (h8 p hp).1 (h8 p hp).2.1, fun hk => ?_, (h8 p hp).2.2⟩⟩
  · rcases key k hk with h | h
    · exact h5 k h
    · have := h7.size; omega
  · rcases key k hq2 with h | h
    · exact (h6 k hk).2 h
    · have := h3.lt k hk; omega
  · rcases key _ hk with h | h
    · exact (h8 p hp).2.1 h
    · have := hget_lt (h8 p hp).1; omega
theorem two_put (h : Two W w P M R bi bb s t E) (x : Nat) (hx : x < 4294967296) (d : ByteArray) (f : Bool) :
    Calls Try.prog 10 #[.pointer (some ⟨P, 0, none⟩), .int .u32 (x : Int), .string d, .bool f] w fun r w' => r = .returned (.bool (took s x d.data.toList f)) ∧ Two W w' P M R bi bb (put s x d.data.toList f) t E := by
  obtain ⟨rv, en, e, h1, h2, h3, h4, h5, h6, h7, h8⟩ := h
  refine (put_any h1 h2 x hx d f).mono ?_
  rintro r w' ⟨rfl, rv', en', hq, ho, hn⟩
  exact ⟨rfl, two_q h1 h3 h4 h5 h6 h7 h8 (inv_put h2 ..) hq ho hn⟩
theorem two_read (h : Two W w P M R bi bb s t E) (most : Int) :
    Calls Try.prog 11 #[.pointer (some ⟨P, 0, none⟩), .int .i64 most] w fun r w' => r = .returned (.string ⟨(s.ready.take (readN s most)).toArray⟩) ∧ Two W w' P M R bi bb (read s most) t E := by
  obtain ⟨rv, en, e, h1, h2, h3, h4, h5, h6, h7, h8⟩ := h
  refine (read_any h1 h2 most).mono ?_
  rintro r w' ⟨rfl, rv', hq, ho, hn⟩
  exact ⟨rfl, two_q h1 h3 h4 h5 h6 h7 h8 (inv_read h2 ..) hq ho hn⟩
theorem two_r {rv : Value} {en e' : Int} {t' : FS} {e : Int} (h1 : QAt w P M rv en s) (h2 : Inv s) (_h3 : RAt w R bi bb e t) (h5 : ∀ k, QEx P M rv k → W.heap.size ≤ k) (h6 : ∀ k, REx R bi bb k → W.heap.size ≤ k ∧ ¬ QEx P M rv k) (h7 : Below W.heap.size W w) (h8 : ∀ p ∈ E, hget w p.1 = some p.2 ∧ ¬ QEx P M rv p.1 ∧ ¬ REx R bi bb p.1)
    (hi : Inv t') (hq : RAt w' R bi bb e' t') (ho : Out (REx R bi bb) w w') : Two W w' P M R bi bb s t' E :=
  ⟨rv, en, e', h1.out ho (fun k hk hr => (h6 k hr).2 hk), h2, hq, hi, h5, h6, h7.trans (ho.below (fun k hk => (h6 k hk).1) h7.size), fun p hp => ⟨ho.get (h8 p hp).1 (h8 p hp).2.2, (h8 p hp).2⟩⟩
theorem two_rput (h : Two W w P M R bi bb s t E) (x : Nat) (hx : x < 4294967296) (d : ByteArray) (f : Bool) :
    Calls Try.prog 21 #[.pointer (some ⟨R, 0, none⟩), .int .u32 (x : Int), .string d, .bool f] w fun r w' => r = .returned (.bool (took t x d.data.toList f)) ∧ Two W w' P M R bi bb s (put t x d.data.toList f) E := by
  obtain ⟨rv, en, e, h1, h2, h3, h4, h5, h6, h7, h8⟩ := h
  refine (rput_any h3 h4 x hx d f).mono ?_
  rintro r w' ⟨rfl, e', hq, ho⟩
  exact ⟨rfl, two_r h1 h2 h3 h5 h6 h7 h8 (inv_put h4 ..) hq ho⟩
theorem two_rread (h : Two W w P M R bi bb s t E) (most : Int) :
    Calls Try.prog 20 #[.pointer (some ⟨R, 0, none⟩), .int .i64 most] w fun r w' => r = .returned (.string ⟨(t.ready.take (readN t most)).toArray⟩) ∧ Two W w' P M R bi bb s (read t most) E := by
  obtain ⟨rv, en, e, h1, h2, h3, h4, h5, h6, h7, h8⟩ := h
  refine (rread_any h3 h4 most).mono ?_
  rintro r w' ⟨rfl, hq, ho⟩
  exact ⟨rfl, two_r h1 h2 h3 h5 h6 h7 h8 (inv_read h4 ..) hq ho⟩
end
end Go.Proofs.Ytkmkgfgppblleaa

namespace Go.Proofs.Ytkmkgfgppblleaa
open Go Go.RowKit

section
variable {P : Program} {ops : Array Oper} {pv : List Nat} {Rel : Nat → Value → World → Prop} {C : World → Prop}

def also (S : Nat → Bool) (i : Nat) : Nat → Bool := fun j => if j = i then true else S j
/-- What waits for another comes behind it. -/
def CloS (ops : Array Oper) (S : Nat → Bool) : Prop := ∀ j o, ops[j]? = some o → S j = true → ∀ e ∈ o.after, Region.binds .any e = true → S e.on = true
def Due (ops : Array Oper) (S : Nat → Bool) (i : Nat) : Prop := S i = false ∧ ∀ o, ops[i]? = some o → ∀ e ∈ o.after, Region.binds .any e = true → S e.on = true
abbrev InvT := (Nat → Bool) → (Nat → Value) → World → Prop
def PostI (ops : Array Oper) (pv : List Nat) (Inv : InvT) : PostT := fun i v g w u x => ∀ S, CloS ops S → Due ops S i → Inv S g w → (i ∉ pv → u = v) ∧ Inv (also S i) (if i ∈ pv then fun p => if p = i then u else g p else g) x

theorem wpAny_of_inv (h : Priv ops pv) (hsel : ∀ (j : Nat) (o : Oper) cs b, ops[j]? = some o → o.op ≠ .select cs b) {Q : Act → Prop} {Q' : Exit → Act → World → Prop} (Inv : InvT)
    (hI1 : ∀ S g w, Inv S g w → C w) (hI2 : ∀ S g w p, p ∈ pv → S p = true → Inv S g w → Rel p (g p) w)
    (hU : ∀ S g w i o, ops[i]? = some o → o.guard ≠ none → Inv S g w → Inv (also S i) g w)
    (hQ : ∀ S g a w, (∀ s, s < ops.size → S s = true) → Inv S g w → Q a → Q' .normal (over ops pv g a) w) :
    ∀ (fuel : Nat) (listed : Array Bool) (a : Act) (g : Nat → Value) (r : Act) (w : World), Closed .any ops listed → Real ops pv (fun p => listed.getD p false) g a r → Inv (fun p => listed.getD p false) g w →
    listed.size = ops.size →
    wpAnyG P ops pv Rel C (PostI ops pv Inv) (fun listed a => (∀ s, s < ops.size → listed.getD s false = true) ∧ Q a) fuel listed a → wpAny P .any ops Q' fuel listed r w := by
  have fin : ∀ (listed : Array Bool) (a : Act) (g : Nat → Value) (r : Act) (w : World), Real ops pv (fun p => listed.getD p false) g a r → Inv (fun p => listed.getD p false) g w →
      (∀ s, s < ops.size → listed.getD s false = true) → Q a → Q' .normal r w := fun listed a g r w hr hi hall hq => by
    have hl : ∀ p ∈ pv, listed.getD p false = true := fun p hp => by
      obtain ⟨o, t, ho, _⟩ := h.has p hp
      exact hall p (Array.getElem?_eq_some_iff.1 ho).1
    rw [hr.all h hl]
    exact hQ _ g a w hall hi hq
  intro fuel
  induction fuel with
  | zero => intro listed a g r w _ hr hi hsz hh; exact ⟨hh.1, fin listed a g r w hr hi hh.2.1 hh.2.2⟩
  | succ fuel ih =>
    intro listed a g r w hc hr hinv hsz hh
    refine ⟨fun h0 => fin listed a g r w hr hinv (hh.1 h0).1 (hh.1 h0).2, fun i hi => ?_⟩
    have h2 := hh.2 i hi
    have hc2 := hc.set hi
    have hsz2 : (listed.setIfInBounds i true).size = ops.size := by simpa using hsz
    obtain ⟨hif, hil⟩ := getD_ft (mem_ready.1 hi).1
    have hS : (fun p => (listed.setIfInBounds i true).getD p false) i = true := by simp [hil]
    have hS2 : ∀ p, p ≠ i → (fun p => (listed.setIfInBounds i true).getD p false) p = (fun p => listed.getD p false) p := fun p hp => getD_set_ne false (Ne.symm hp)
    have hSe : (fun p => (listed.setIfInBounds i true).getD p false) = also (fun p => listed.getD p false) i := by
      funext j
      unfold also
      by_cases hj : j = i
      · rw [if_pos hj, hj]; exact hS
      · rw [if_neg hj]; exact hS2 j hj
    obtain ⟨_, o, ho, hall⟩ := mem_ready.1 hi
    have hclo : CloS ops (fun p => listed.getD p false) := fun j oj hj hl e he hb => hc j oj hj hl e he hb
    have hdue : Due ops (fun p => listed.getD p false) i := ⟨hif, fun o' ho' e he hb => by
      have : o' = o := Option.some.inj (ho'.symm.trans ho)
      subst this
      exact hall e he hb⟩
    unfold gOp at h2
    unfold wpOp
    simp only [ho] at h2 ⊢
    obtain ⟨v, hd, hK⟩ := h2
    rw [real_wanted h ho hr]
    rcases hd with ⟨hwt, hd⟩ | ⟨hwt, rfl⟩
    · rw [hwt, if_pos rfl]
      refine .inl ?_
      have hwl : ∀ p ∈ pv, waitsB o p = true → listed.getD p false = true := fun p hp hwp => by
        unfold waitsB at hwp
        obtain ⟨e, he, hb⟩ := Array.any_eq_true'.1 hwp
        simp only [Bool.and_eq_true, beq_iff_eq] at hb
        rw [← hb.2]; exact hall e he hb.1
      refine wp_of_gRaw (real_exec h ho (fun cs b => hsel i o cs b ho) hr hwl) (hd g w (hI1 _ g w hinv) (fun p hp hwp => hI2 _ g w p hp (hwl p hp (by unfold usesB at hwp; rw [Bool.and_eq_true] at hwp; exact hwp.1)) hinv)) fun u x hok => ?_
      obtain ⟨e1, e2⟩ := hok _ hclo hdue hinv
      rw [← hSe] at e2
      by_cases hip : i ∈ pv
      · rw [if_pos hip] at e2
        exact ih _ _ (fun p => if p = i then u else g p) _ _ hc2 (hr.step h ho hS hS2 v u _ (fun p hp => if_neg hp) (by rw [if_pos hip, if_pos rfl])) e2 hsz2 hK
      · rw [if_neg hip] at e2
        exact ih _ _ g _ _ hc2 (hr.step h ho hS hS2 v u g (fun _ _ => rfl) (by rw [if_neg hip]; exact e1 hip)) e2 hsz2 hK
    · rw [hwt]
      have hgn : o.guard ≠ none := fun hg => by
        unfold Region.wanted at hwt
        rw [hg] at hwt
        cases hwt
      have hip : i ∉ pv := fun hp => by
        obtain ⟨o2, t, ho2, _, hg⟩ := h.has i hp
        have : o2 = o := Option.some.inj (ho2.symm.trans ho)
        subst this
        exact hgn hg
      refine ih _ _ g _ _ hc2 (hr.step h ho hS hS2 undef undef g (fun _ _ => rfl) (by rw [if_neg hip])) ?_ hsz2 hK
      rw [hSe]
      exact hU _ g w i o ho hgn hinv
/-- The law. -/
theorem wp_region_inv {id : Nat} {Q : Exit → Act → World → Prop} {a : Act} {w : World} {l : List Oper} (pv : List Nat) (Rel : Nat → Value → World → Prop) (C : World → Prop) (Inv : InvT) (hm : P.follows .mixedOrders = true) (hB : Region.lexB .any l.toArray = true) (hP : privB l.toArray pv = true)
    (hI0 : Inv (fun _ => false) (fun _ => undef) w.drew) (hI1 : ∀ S g w, Inv S g w → C w) (hI2 : ∀ S g w p, p ∈ pv → S p = true → Inv S g w → Rel p (g p) w)
    (hU : ∀ S g w i o, l[i]? = some o → o.guard ≠ none → Inv S g w → Inv (also S i) g w)
    (h : wpGho P l.toArray pv Rel C (PostI l.toArray pv Inv) (fun a' => ∀ S g w', (∀ s, s < l.length → S s = true) → Inv S g w' → Q .normal (over l.toArray pv g a') w') 0 l a) : (Code.region id l.toArray true).wp P Q a w := by
  simp only [Region.lexB, Bool.and_eq_true] at hB
  refine wp_region_any hm ?_
  have hp := Priv.of hP
  have hx := wpAnyG_lex (P := P) (pv := pv) (Rel := Rel) (C := C) hp hB.1 l 0 (Array.replicate l.toArray.size false) a (by simp) (by simp) (fun j hj => absurd hj (Nat.not_lt_zero _)) (by simpa using hB.2) h
  have hf : ∀ m j, (Array.replicate m false).getD j false = false := fun m j => by
    rcases Nat.lt_or_ge j m with h | h
    · simp [h]
    · simp [h]
  have hy := wpAny_of_inv (P := P) (ops := l.toArray) (pv := pv) (Rel := Rel) (C := C) hp (Region.noSelect_spec hB.1) Inv hI1 hI2 (fun S g w i o ho => hU S g w i o (by simpa using ho))
    (fun S g a w' hs hi hq => hq S g w' (fun s hs' => hs s (by simpa using hs')) hi) _ _ _ (fun _ => undef) a w.drew (fun j oj _ hl => by rw [hf] at hl; cases hl)
    ⟨rfl, rfl, fun t _ => by
      unfold valAt
      have : (pv.find? fun p => (Array.replicate l.toArray.size false).getD p false && dstOf l.toArray p == some t) = none := by
        rw [List.find?_eq_none]; intro p _; rw [hf]; simp
      rw [this]⟩ (by rw [show (fun p => (Array.replicate l.toArray.size false).getD p false) = fun _ => false from funext fun p => hf _ p]; exact hI0) (by simp) hx
  simpa using hy
end

end Go.Proofs.Ytkmkgfgppblleaa
