/- The walks of the congestion control, of the program and of the reference: what each call does. -/
import Derived.Test.YtekjnljjhdochaaCongL1
namespace Go.Proofs.Ytekjnljjhdochaa
open Go.RowKit
attribute [local go_sem] World.cell?_alloc_some

@[go_sem] theorem field_f (a b c d e : Value) (w : World) : (Instr.field 32 (.agg #[a, b, c, d, e]) 3).run Try.prog w = .ok d w := by kernel_rfl
theorem below_alloc {W w : World} (h : Below W.heap.size W w) (o : Obj) : Below W.heap.size W (w.alloc o) := h.alloc h.size o


set_option maxRecDepth 100000 in
set_option maxHeartbeats 2000000 in
theorem bounds_any (m0 : Int) (a : Option Addr) (len cap : Nat) (s : Nat → Stp) (W : World) (hm : 0 ≤ m0 ∧ m0 ≤ 65535) (hs : StepsAt W a len s) (hlen : len ≤ 300) :
    Calls Try.prog 4 #[.int .u16 m0, .slice a len cap] W fun e w' => e = .returned (.bool true) ∧ Below W.heap.size W w' := by
  have hl : (len : Int) ≤ 300 := by omega
  have h1 : 1 ≤ m0 % 16384 + 1 := by omega
  have h2 : m0 % 16384 + 1 ≤ 16384 := by omega
  go_enter Try.func4, Try.ntmps4
  go_wp2_with fail
  generalize m0 % 16384 + 1 = m at *
  refine (new_any m _ h1 h2).mono ?_
  rintro e w1 ⟨rfl, hw1⟩
  have g1 : w1.heap[W.heap.size]? = some (.cells (fresh m).enc 46 (0, 0)) := by rw [← hw1]; exact alloc_at _ _
  have b1 : Below W.heap.size W w1 := by rw [← hw1]; exact alloc_below _ _ _ (Nat.le_refl _)
  clear hw1
  go_wp2_with fail
  go_loopw [8] (fun i wr => ∃ (k : Nat) (st : St), k ≤ len ∧ i = .int .i64 k ∧ st.ok ∧ st.m = m ∧ (0 ≤ st.d ∧ st.d ≤ k) ∧ wr.heap[W.heap.size]? = some (.cells st.enc 46 (0, 0)) ∧ Below W.heap.size W wr)
    (fun i _ => len - (intOf i).toNat)
  case atStart => exact ⟨0, _, Nat.zero_le _, rfl, fresh_ok h1 h2, rfl, by simp [fresh], g1, b1⟩
  case round =>
    obtain ⟨k, st, hk, rfl, hok, hsm, hsd, hr, hb⟩ := hrel
    have HS := hid hs
    clear hs g1 b1
    by_cases hlt : k < len
    · obtain ⟨sm, sw, sl, sd, sf, sr⟩ := st
      simp only at hsm hsd
      subst hsm
      have HR := hid hr
      clear hr
      obtain h0 | ⟨b, off, rfl, hbs, hx⟩ := HS.out
      · omega
      obtain ⟨x1, x2, x3, x4, x5⟩ := hx k hlt
      have y1 := (hb.cell (p := ⟨b, off + k * 3, none⟩) hbs).trans x1
      have y2 := (hb.cell (p := ⟨b, off + k * 3 + 1, none⟩) hbs).trans x2
      have y3 := (hb.cell (p := ⟨b, off + k * 3 + 2, none⟩) hbs).trans x3
      clear x1 x2 x3 hx
      generalize s k = t at *
      obtain ⟨tdo, ta, tb⟩ := t
      simp only at y1 y2 y3 x4 x5
      go_wp2_with fail
      refine (state_any W.heap.size ⟨sm, sw, sl, sd, sf, sr⟩ _ (by exact alloc_old HR.out)).mono ?_
      rintro e w' ⟨rfl, o, rfl⟩
      go_wp2_with fail
      · obtain ⟨X, hX⟩ : ∃ X, X = wr.heap.size := ⟨_, rfl⟩
        obtain ⟨O, hO⟩ : ∃ O, O = X + 1 + 1 := ⟨_, rfl⟩
        obtain ⟨wB, hB⟩ : ∃ wB, wB = ((wr.alloc (.cells #[.int .i64 tdo, .int .u32 ta, .int .u32 tb] 37)).alloc o).alloc (.cells #[.int .u32 sw, .int .u32 sl, .int .i64 sd, .bool sf, .int .u32 sr] 32) := ⟨_, rfl⟩
        have rB : wB.heap[W.heap.size]? = some (.cells (St.enc ⟨sm, sw, sl, sd, sf, sr⟩) 46 (0, 0)) := by rw [hB]; exact alloc_old (alloc_old (alloc_old HR.out))
        have xB : wB.heap[X]? = some (.cells #[.int .i64 tdo, .int .u32 ta, .int .u32 tb] 37 (0, 0)) := by rw [hB, hX]; exact alloc_old (alloc_old (alloc_at _ _))
        have oB : wB.heap[O]? = some (.cells #[.int .u32 sw, .int .u32 sl, .int .i64 sd, .bool sf, .int .u32 sr] 32 (0, 0)) := by rw [hB, hO, hX]; have := alloc_at ((wr.alloc (.cells #[.int .i64 tdo, .int .u32 ta, .int .u32 tb] 37)).alloc o) (.cells #[.int .u32 sw, .int .u32 sl, .int .i64 sd, .bool sf, .int .u32 sr] 32); simpa using this
        have bB : Below W.heap.size W wB := by rw [hB]; exact ((hb.alloc hb.size _).alloc (by simp; have := hb.size; omega) _).alloc (by simp; have := hb.size; omega) _
        have nX : W.heap.size ≠ X ∧ W.heap.size ≠ O := by have := lt_blk HR.out; omega
        have eB := hB
        rw [← hB]
        try rw [← hX]
        try rw [← hO]
        clear eB hB hX hO HR hb y1 y2 y3
        refine (acked_any W.heap.size _ ta tb wB rB hok x5).mono ?_
        rintro e wC ⟨rfl, hd⟩
        have hT := acked_ok hok ta tb
        have hTm := (acked_m ⟨sm, sw, sl, sd, sf, sr⟩ ta tb).symm
        have hTd := acked_d (s := ⟨sm, sw, sl, sd, sf, sr⟩) hsd ta tb
        have hTg := fun h => acked_grow hok ta tb h
        have rC := hid (dr_at hd (lt_blk rB))
        have xC := (dr_other hd X (Ne.symm nX.1)).trans xB
        have oC := (dr_other hd O (Ne.symm nX.2)).trans oB
        have bC := bB.trans (dr_below hd (Nat.le_refl _))
        have cx1 : wC.cell? ⟨X, 1, none⟩ = some (.int .u32 ta) := cell_at xC 1
        have cx2 : wC.cell? ⟨X, 2, none⟩ = some (.int .u32 tb) := cell_at xC 2
        have co0 : wC.cell? ⟨O, 0, none⟩ = some (.int .u32 sw) := cell_at oC 0
        have co2 : wC.cell? ⟨O, 2, none⟩ = some (.int .i64 sd) := cell_at oC 2
        have co3 : wC.cell? ⟨O, 3, none⟩ = some (.bool sf) := cell_at oC 3
        clear hd rB xB oB bB xC oC
        generalize acked ⟨sm, sw, sl, sd, sf, sr⟩ ta tb = T at *
        simp only at hTm hTg
        go_wp2_with fail
        refine (state_any W.heap.size T _ rC.out).mono ?_
        rintro e wE ⟨rfl, o2, rfl⟩
        by_cases htb : 0 < tb
        · have hg := hTg htb
          clear hTg
          cases sf
          · have hg' := hg rfl
            clear hg
            have HT := hid hT
            obtain ⟨nm, nw, nl, nd, nf, nr⟩ := T
            simp only at hTm hTd
            subst hTm
            obtain ⟨t1, t2, t3, t4, t5, t6⟩ := hT
            simp only at t1 t2 t3 t4 t5 t6
            simp only at hg'
            obtain ⟨g1, g2, g3⟩ := hg'
            go_wp2_with fail
            all_goals
              refine (state_any W.heap.size ⟨sm, nw, nl, nd, nf, nr⟩ _ (by exact alloc_old (alloc_old rC.out))).mono ?_
              rintro e wE ⟨rfl, o3, rfl⟩
              go_wp2_with fail
              exact ⟨⟨k + 1, ⟨sm, nw, nl, nd, nf, nr⟩, by omega, by go_num, HT.out, rfl, by simp only; omega, alloc_old (alloc_old (alloc_old (alloc_old rC.out))), below_alloc (below_alloc (below_alloc (below_alloc bC _) _) _) _⟩, by simp [intOf]; omega⟩
          · clear hg
            have HT := hid hT
            obtain ⟨nm, nw, nl, nd, nf, nr⟩ := T
            simp only at hTm hTd
            subst hTm
            obtain ⟨t1, t2, t3, t4, t5, t6⟩ := hT
            simp only at t1 t2 t3 t4 t5 t6
            go_wp2_with fail
            all_goals
              refine (state_any W.heap.size ⟨sm, nw, nl, nd, nf, nr⟩ _ (by exact alloc_old (alloc_old rC.out))).mono ?_
              rintro e wE ⟨rfl, o3, rfl⟩
              go_wp2_with fail
              exact ⟨⟨k + 1, ⟨sm, nw, nl, nd, nf, nr⟩, by omega, by go_num, HT.out, rfl, by simp only; omega, alloc_old (alloc_old (alloc_old (alloc_old rC.out))), below_alloc (below_alloc (below_alloc (below_alloc bC _) _) _) _⟩, by simp [intOf]; omega⟩
        · clear hTg
          have HT := hid hT
          obtain ⟨nm, nw, nl, nd, nf, nr⟩ := T
          simp only at hTm hTd
          subst hTm
          obtain ⟨t1, t2, t3, t4, t5, t6⟩ := hT
          simp only at t1 t2 t3 t4 t5 t6
          go_wp2_with fail
          all_goals
            refine (state_any W.heap.size ⟨sm, nw, nl, nd, nf, nr⟩ _ (by exact alloc_old (alloc_old rC.out))).mono ?_
            rintro e wE ⟨rfl, o3, rfl⟩
            go_wp2_with fail
            exact ⟨⟨k + 1, ⟨sm, nw, nl, nd, nf, nr⟩, by omega, by go_num, HT.out, rfl, by simp only; omega, alloc_old (alloc_old (alloc_old (alloc_old rC.out))), below_alloc (below_alloc (below_alloc (below_alloc bC _) _) _) _⟩, by simp [intOf]; omega⟩
      · obtain ⟨X, hX⟩ : ∃ X, X = wr.heap.size := ⟨_, rfl⟩
        obtain ⟨O, hO⟩ : ∃ O, O = X + 1 + 1 := ⟨_, rfl⟩
        obtain ⟨wB, hB⟩ : ∃ wB, wB = ((wr.alloc (.cells #[.int .i64 tdo, .int .u32 ta, .int .u32 tb] 37)).alloc o).alloc (.cells #[.int .u32 sw, .int .u32 sl, .int .i64 sd, .bool sf, .int .u32 sr] 32) := ⟨_, rfl⟩
        have rB : wB.heap[W.heap.size]? = some (.cells (St.enc ⟨sm, sw, sl, sd, sf, sr⟩) 46 (0, 0)) := by rw [hB]; exact alloc_old (alloc_old (alloc_old HR.out))
        have xB : wB.heap[X]? = some (.cells #[.int .i64 tdo, .int .u32 ta, .int .u32 tb] 37 (0, 0)) := by rw [hB, hX]; exact alloc_old (alloc_old (alloc_at _ _))
        have oB : wB.heap[O]? = some (.cells #[.int .u32 sw, .int .u32 sl, .int .i64 sd, .bool sf, .int .u32 sr] 32 (0, 0)) := by rw [hB, hO, hX]; have := alloc_at ((wr.alloc (.cells #[.int .i64 tdo, .int .u32 ta, .int .u32 tb] 37)).alloc o) (.cells #[.int .u32 sw, .int .u32 sl, .int .i64 sd, .bool sf, .int .u32 sr] 32); simpa using this
        have bB : Below W.heap.size W wB := by rw [hB]; exact ((hb.alloc hb.size _).alloc (by simp; have := hb.size; omega) _).alloc (by simp; have := hb.size; omega) _
        have nX : W.heap.size ≠ X ∧ W.heap.size ≠ O := by have := lt_blk HR.out; omega
        have eB := hB
        rw [← hB]
        try rw [← hX]
        try rw [← hO]
        clear eB hB hX hO HR hb y1 y2 y3
        refine (dup_any W.heap.size _ ta tb wB rB hok x4).mono ?_
        rintro e wC ⟨rfl, hd⟩
        have hT := dupped_ok hok ta tb
        have hTm := (dupped_m ⟨sm, sw, sl, sd, sf, sr⟩ ta tb).symm
        have hTd := dupped_d (s := ⟨sm, sw, sl, sd, sf, sr⟩) hsd (by omega) ta tb
        obtain ⟨ha1, ha2⟩ := dupped_again hok (by simp only; omega) ta tb x4.1
        have rC := hid (dr_at hd (lt_blk rB))
        have xC := (dr_other hd X (Ne.symm nX.1)).trans xB
        have oC := (dr_other hd O (Ne.symm nX.2)).trans oB
        have bC := bB.trans (dr_below hd (Nat.le_refl _))
        have cx1 : wC.cell? ⟨X, 1, none⟩ = some (.int .u32 ta) := cell_at xC 1
        have cx2 : wC.cell? ⟨X, 2, none⟩ = some (.int .u32 tb) := cell_at xC 2
        have co0 : wC.cell? ⟨O, 0, none⟩ = some (.int .u32 sw) := cell_at oC 0
        have co2 : wC.cell? ⟨O, 2, none⟩ = some (.int .i64 sd) := cell_at oC 2
        have co3 : wC.cell? ⟨O, 3, none⟩ = some (.bool sf) := cell_at oC 3
        clear hd rB xB oB bB xC oC
        rw [ha1] at ha2 ⊢
        clear ha1
        generalize (dupped ⟨sm, sw, sl, sd, sf, sr⟩ ta tb).1 = T at *
        simp only at hTm ha2 ⊢
        cases sf
        · simp only [Bool.not_false, Bool.true_and] at ha2 ⊢
          cases hag : (sd == 2)
          · clear ha2
            have HT := hid hT
            obtain ⟨nm, nw, nl, nd, nf, nr⟩ := T
            simp only at hTm hTd
            subst hTm
            obtain ⟨t1, t2, t3, t4, t5, t6⟩ := hT
            simp only at t1 t2 t3 t4 t5 t6
            go_wp2_with fail
            refine (state_any W.heap.size ⟨sm, nw, nl, nd, nf, nr⟩ _ (by exact rC.out)).mono ?_
            rintro e wE ⟨rfl, o2, rfl⟩
            go_wp2_with fail
            all_goals
              refine (state_any W.heap.size ⟨sm, nw, nl, nd, nf, nr⟩ _ (by exact alloc_old (alloc_old rC.out))).mono ?_
              rintro e wE ⟨rfl, o3, rfl⟩
              go_wp2_with fail
              exact ⟨⟨k + 1, ⟨sm, nw, nl, nd, nf, nr⟩, by omega, by go_num, HT.out, rfl, by simp only; omega, alloc_old (alloc_old (alloc_old (alloc_old rC.out))), below_alloc (below_alloc (below_alloc (below_alloc bC _) _) _) _⟩, by simp [intOf]; omega⟩
          · obtain ⟨g1, g2, g3⟩ := ha2 hag
            clear ha2
            have HT := hid hT
            obtain ⟨nm, nw, nl, nd, nf, nr⟩ := T
            simp only at hTm hTd
            subst hTm
            obtain ⟨t1, t2, t3, t4, t5, t6⟩ := hT
            simp only at t1 t2 t3 t4 t5 t6
            go_wp2_with fail
            refine (state_any W.heap.size ⟨sm, nw, nl, nd, nf, nr⟩ _ (by exact rC.out)).mono ?_
            rintro e wE ⟨rfl, o2, rfl⟩
            go_wp2_with fail
            all_goals
              refine (state_any W.heap.size ⟨sm, nw, nl, nd, nf, nr⟩ _ (by exact alloc_old (alloc_old rC.out))).mono ?_
              rintro e wE ⟨rfl, o3, rfl⟩
              go_wp2_with fail
              exact ⟨⟨k + 1, ⟨sm, nw, nl, nd, nf, nr⟩, by omega, by go_num, HT.out, rfl, by simp only; omega, alloc_old (alloc_old (alloc_old (alloc_old rC.out))), below_alloc (below_alloc (below_alloc (below_alloc bC _) _) _) _⟩, by simp [intOf]; omega⟩
        · clear ha2
          simp only [Bool.not_true, Bool.false_and]
          have HT := hid hT
          obtain ⟨nm, nw, nl, nd, nf, nr⟩ := T
          simp only at hTm hTd
          subst hTm
          obtain ⟨t1, t2, t3, t4, t5, t6⟩ := hT
          simp only at t1 t2 t3 t4 t5 t6
          go_wp2_with fail
          refine (state_any W.heap.size ⟨sm, nw, nl, nd, nf, nr⟩ _ (by exact rC.out)).mono ?_
          rintro e wE ⟨rfl, o2, rfl⟩
          go_wp2_with fail
          all_goals
            refine (state_any W.heap.size ⟨sm, nw, nl, nd, nf, nr⟩ _ (by exact alloc_old (alloc_old rC.out))).mono ?_
            rintro e wE ⟨rfl, o3, rfl⟩
            go_wp2_with fail
            exact ⟨⟨k + 1, ⟨sm, nw, nl, nd, nf, nr⟩, by omega, by go_num, HT.out, rfl, by simp only; omega, alloc_old (alloc_old (alloc_old (alloc_old rC.out))), below_alloc (below_alloc (below_alloc (below_alloc bC _) _) _) _⟩, by simp [intOf]; omega⟩
      · obtain ⟨X, hX⟩ : ∃ X, X = wr.heap.size := ⟨_, rfl⟩
        obtain ⟨O, hO⟩ : ∃ O, O = X + 1 + 1 := ⟨_, rfl⟩
        obtain ⟨wB, hB⟩ : ∃ wB, wB = ((wr.alloc (.cells #[.int .i64 tdo, .int .u32 ta, .int .u32 tb] 37)).alloc o).alloc (.cells #[.int .u32 sw, .int .u32 sl, .int .i64 sd, .bool sf, .int .u32 sr] 32) := ⟨_, rfl⟩
        have rB : wB.heap[W.heap.size]? = some (.cells (St.enc ⟨sm, sw, sl, sd, sf, sr⟩) 46 (0, 0)) := by rw [hB]; exact alloc_old (alloc_old (alloc_old HR.out))
        have xB : wB.heap[X]? = some (.cells #[.int .i64 tdo, .int .u32 ta, .int .u32 tb] 37 (0, 0)) := by rw [hB, hX]; exact alloc_old (alloc_old (alloc_at _ _))
        have oB : wB.heap[O]? = some (.cells #[.int .u32 sw, .int .u32 sl, .int .i64 sd, .bool sf, .int .u32 sr] 32 (0, 0)) := by rw [hB, hO, hX]; have := alloc_at ((wr.alloc (.cells #[.int .i64 tdo, .int .u32 ta, .int .u32 tb] 37)).alloc o) (.cells #[.int .u32 sw, .int .u32 sl, .int .i64 sd, .bool sf, .int .u32 sr] 32); simpa using this
        have bB : Below W.heap.size W wB := by rw [hB]; exact ((hb.alloc hb.size _).alloc (by simp; have := hb.size; omega) _).alloc (by simp; have := hb.size; omega) _
        have nX : W.heap.size ≠ X ∧ W.heap.size ≠ O := by have := lt_blk HR.out; omega
        have eB := hB
        rw [← hB]
        try rw [← hX]
        try rw [← hO]
        clear eB hB hX hO HR hb y1 y2 y3
        refine (tout_any W.heap.size _ ta wB rB hok x4).mono ?_
        rintro e wC ⟨rfl, hd⟩
        have hT := timed_ok hok ta
        have rC := hid (dr_at hd (lt_blk rB))
        have bC := bB.trans (dr_below hd (Nat.le_refl _))
        clear hd rB xB oB bB
        have HT := hid hT
        obtain ⟨t1, t2, t3, t4, t5, t6⟩ := hT
        simp only [timed] at t1 t2 t3 t4 t5 t6 rC HT
        generalize half ⟨sm, sw, sl, sd, sf, sr⟩ ta = nl at *
        go_wp2_with fail
        refine (state_any W.heap.size ⟨sm, sm, nl, 0, false, sr⟩ _ (by exact rC.out)).mono ?_
        rintro e wE ⟨rfl, o4, rfl⟩
        go_wp2_with fail
        refine (state_any W.heap.size ⟨sm, sm, nl, 0, false, sr⟩ _ (by exact alloc_old rC.out)).mono ?_
        rintro e wE ⟨rfl, o5, rfl⟩
        go_wp2_with fail
        refine (state_any W.heap.size ⟨sm, sm, nl, 0, false, sr⟩ _ (by exact alloc_old (alloc_old rC.out))).mono ?_
        rintro e wE ⟨rfl, o6, rfl⟩
        go_wp2_with fail
        exact ⟨⟨k + 1, ⟨sm, sm, nl, 0, false, sr⟩, by omega, by go_num, HT.out, rfl, by simp only; omega, alloc_old (alloc_old (alloc_old (alloc_old rC.out))), below_alloc (below_alloc (below_alloc (below_alloc bC _) _) _) _⟩, by simp [intOf]; omega⟩
      · obtain ⟨X, hX⟩ : ∃ X, X = wr.heap.size := ⟨_, rfl⟩
        obtain ⟨O, hO⟩ : ∃ O, O = X + 1 + 1 := ⟨_, rfl⟩
        obtain ⟨wB, hB⟩ : ∃ wB, wB = ((wr.alloc (.cells #[.int .i64 tdo, .int .u32 ta, .int .u32 tb] 37)).alloc o).alloc (.cells #[.int .u32 sw, .int .u32 sl, .int .i64 sd, .bool sf, .int .u32 sr] 32) := ⟨_, rfl⟩
        have rB : wB.heap[W.heap.size]? = some (.cells (St.enc ⟨sm, sw, sl, sd, sf, sr⟩) 46 (0, 0)) := by rw [hB]; exact alloc_old (alloc_old (alloc_old HR.out))
        have xB : wB.heap[X]? = some (.cells #[.int .i64 tdo, .int .u32 ta, .int .u32 tb] 37 (0, 0)) := by rw [hB, hX]; exact alloc_old (alloc_old (alloc_at _ _))
        have oB : wB.heap[O]? = some (.cells #[.int .u32 sw, .int .u32 sl, .int .i64 sd, .bool sf, .int .u32 sr] 32 (0, 0)) := by rw [hB, hO, hX]; have := alloc_at ((wr.alloc (.cells #[.int .i64 tdo, .int .u32 ta, .int .u32 tb] 37)).alloc o) (.cells #[.int .u32 sw, .int .u32 sl, .int .i64 sd, .bool sf, .int .u32 sr] 32); simpa using this
        have bB : Below W.heap.size W wB := by rw [hB]; exact ((hb.alloc hb.size _).alloc (by simp; have := hb.size; omega) _).alloc (by simp; have := hb.size; omega) _
        have nX : W.heap.size ≠ X ∧ W.heap.size ≠ O := by have := lt_blk HR.out; omega
        have eB := hB
        rw [← hB]
        try rw [← hX]
        try rw [← hO]
        clear eB hB hX hO HR hb y1 y2 y3
        refine (state_any W.heap.size _ _ rB).mono ?_
        rintro e wE ⟨rfl, o3, rfl⟩
        have HO := hid hok
        obtain ⟨t1, t2, t3, t4, t5, t6⟩ := hok
        simp only at t1 t2 t3 t4 t5 t6
        go_wp2_with fail
        exact ⟨⟨k + 1, ⟨sm, sw, sl, sd, sf, sr⟩, by omega, by go_num, HO.out, rfl, by simp only; omega, alloc_old (alloc_old rB), below_alloc (below_alloc bB _) _⟩, by simp [intOf]; omega⟩
    · have HB := hid hb
      clear hb hr
      go_wp2_with fail
      refine (works_any _).mono ?_
      rintro e w3 ⟨rfl, hb'⟩
      have hb3 := HB.out.trans (hb'.mono HB.out.size)
      clear HB hb'
      go_wp2_with fail
      go_ret
      exact ⟨rfl, hb3⟩

set_option maxRecDepth 100000 in
set_option maxHeartbeats 1000000 in
theorem bounds_far (m0 : Int) (a : Option Addr) (len cap : Nat) (W : World) (hlen : 300 < len) (hmax : len ≤ 9223372036854775807) :
    Calls Try.prog 4 #[.int .u16 m0, .slice a len cap] W fun e w' => e = .returned (.bool true) ∧ Below W.heap.size W w' := by
  have hl : (300 : Int) < (len : Int) := by omega
  go_enter Try.func4, Try.ntmps4
  go_wp2_with fail
  refine (works_any _).mono ?_
  rintro e w3 ⟨rfl, hb'⟩
  go_wp2_with fail
  go_ret
  exact ⟨rfl, hb'⟩

end Go.Proofs.Ytekjnljjhdochaa
