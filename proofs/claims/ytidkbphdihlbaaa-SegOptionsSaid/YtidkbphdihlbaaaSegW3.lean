/- The walk of a segment's reading. -/
import Derived.Test.YtidkbphdihlbaaaSegW2
import Derived.Test.YtidkbphdihlbaaaFLT
namespace Go.Proofs.Ytidkbphdihlbaaa
open Go.RowKit SG

theorem val_bound (l : List UInt8) (n : Nat) (h : l.length ≤ n) : SG.val l < 256 ^ n := Nat.lt_of_lt_of_le (SG.val_lt l) (Nat.pow_le_pow_right (by omega) h)
def zeroSg : Sg := ⟨0, 0, 0, 0, 0, 0, 0, false, 0, []⟩
theorem info_seg : (Try.prog.info? 25).map (·.size) = some 10 := by kernel_rfl

theorem ten_cells {w : World} {b : Nat} {v0 v1 v2 v3 v4 v5 v6 v7 v8 v9 : Value} {T : TypeId} {fz : Nat × Nat} (h : w.heap[b]? = some (.cells #[v0, v1, v2, v3, v4, v5, v6, v7, v8, v9] T fz)) :
    w.cell? ⟨b, 0, none⟩ = some v0 ∧ w.cell? ⟨b, 1, none⟩ = some v1 ∧ w.cell? ⟨b, 2, none⟩ = some v2 ∧ w.cell? ⟨b, 3, none⟩ = some v3 ∧ w.cell? ⟨b, 4, none⟩ = some v4 ∧ w.cell? ⟨b, 5, none⟩ = some v5 ∧ w.cell? ⟨b, 6, none⟩ = some v6 ∧ w.cell? ⟨b, 7, none⟩ = some v7 ∧ w.cell? ⟨b, 8, none⟩ = some v8 ∧ w.cell? ⟨b, 9, none⟩ = some v9 := by
  refine ⟨?_, ?_, ?_, ?_, ?_, ?_, ?_, ?_, ?_, ?_⟩ <;> rw [cell_at h] <;> rfl
theorem set10 {w : World} {b : Nat} {v0 v1 v2 v3 v4 v5 v6 v7 v8 v9 : Value} {T : TypeId} {fz : Nat × Nat} (h : w.heap[b]? = some (.cells #[v0, v1, v2, v3, v4, v5, v6, v7, v8, v9] T fz)) (y0 y1 y2 y3 y4 y5 y6 y7 y8 y9 : Value) :
    (((((((((w.setCell ⟨b, 0, none⟩ y0).setCell ⟨b, 1, none⟩ y1).setCell ⟨b, 2, none⟩ y2).setCell ⟨b, 3, none⟩ y3).setCell ⟨b, 4, none⟩ y4).setCell ⟨b, 5, none⟩ y5).setCell ⟨b, 6, none⟩ y6).setCell ⟨b, 7, none⟩ y7).setCell ⟨b, 8, none⟩ y8).setCell ⟨b, 9, none⟩ y9 =
      blk w b (.cells #[y0, y1, y2, y3, y4, y5, y6, y7, y8, y9] T fz) := by
  have hlt := lt_blk h
  rw [setCell_blk h, blk_setCell hlt, blk_setCell hlt, blk_setCell hlt, blk_setCell hlt, blk_setCell hlt, blk_setCell hlt, blk_setCell hlt, blk_setCell hlt, blk_setCell hlt]
  simp only [List.setIfInBounds_toArray, List.set_cons_zero, List.set_cons_succ]
theorem results_cell_tmp {P : Program} {fn : Func} {p q : Tmp} {ty : TypeId} (h : fn.results = #[.cell p ty, .tmp q]) (tmps : Array Value) (w : World) (g : Nat) (t : TypeId) (cs : Array Value) (fr : Nat × Nat) (d : TypeDesc)
    (hp : tmps.getD p undef = .pointer (some ⟨g, 0, none⟩)) {v : Value} (hq : tmps.getD q undef = v) (hg : w.heap[g]? = some (.cells cs t fr))
    (hu : P.underlying ty = some d) (hd : (match d with | .struct _ | .array _ _ => true | _ => false) = true) (hi : (P.info? ty).map (·.size) = some cs.size) :
    (results fn tmps).run P w = .ok (.tuple #[.agg cs, v]) w := by
  subst hq
  have hp' : tmps[p]?.getD undef = .pointer (some ⟨g, 0, none⟩) := by simpa using hp
  simp [results, h, hp', asAddr, run_loadVar_row w g t ty cs fr d hg hu hd hi]
/-- What is handed back of what is read. -/
def told (r : Sg ⊕ Nat) : Value := match r with
  | .inl g => .tuple #[.agg (sgv g), .int .i64 0]
  | .inr n => .tuple #[.agg (sgv zeroSg), .int .i64 (n : Int)]

theorem and_syn (n : Nat) (h : n < 256) : bits .and .u8 (n : Int) (2 : Int) = if syn n then 2 else 0 := by
  have h2 := u8_and_nat n 2 h (by omega)
  have h3 : ∀ m, m < 256 → ((m &&& 2 : Nat) : Int) = if syn m then 2 else 0 := by decide +kernel
  exact h2.trans (h3 n h)
set_option maxRecDepth 100000 in
set_option maxHeartbeats 2000000 in
theorem decode_any (l : List UInt8) (src dst : Nat) (W : World) (hl : l.length ≤ 1073741824) (hs : src < 4294967296) (hd : dst < 4294967296) :
    Calls Try.prog 8 #[.string (bs l), .int .u32 (src : Int), .int .u32 (dst : Int)] W fun e w' => e = .returned (told (dec l src dst)) ∧ Below W.heap.size W w' := by
  have hbz : (bs l).size = l.length := rfl
  by_cases h20 : l.length < 20
  · have hdec : dec l src dst = .inr 7 := by unfold dec; rw [if_pos h20]
    rw [hdec]
    have t1 : decide ((l.length : Int) < 20) = true := decide_eq_true (by omega)
    go_enter Try.func8, Try.ntmps8
    go_wp2_with fail
    exact bodyPost_ret (v := .tuple #[.agg (sgv zeroSg), .int .i64 7]) (by simp [results, Try.results8, go_sem]; rfl) rfl ⟨rfl, below_new _⟩
  · have t1 : decide ((l.length : Int) < 20) = false := decide_eq_false (by omega)
    have i12 : (12 : Int) < (l.length : Int) := by omega
    obtain ⟨x, hx⟩ : ∃ x, at8 l 12 = x := ⟨_, rfl⟩
    have hxl := x.toNat_lt
    obtain ⟨h, hh⟩ : ∃ h, x.toNat / 16 * 4 = h := ⟨_, rfl⟩
    have hw1 : IntKind.i64.wrap (4 * ((x.toNat : Int) / 16)) = (h : Int) := by rw [show (4 : Int) * ((x.toNat : Int) / 16) = (h : Int) by omega]; exact IntWalk.i64_in _ (by omega)
    have hw2 : (4 : Int) * ((x.toNat : Int) / 16) = (h : Int) := by omega
    have hh60 : h ≤ 60 := by omega
    have hd12 : (l.getD 12 0).toNat / 16 * 4 = h := by rw [show l.getD 12 0 = x from hx]; exact hh
    by_cases hb : h < 20 ∨ l.length < h
    · have hdec : dec l src dst = .inr 8 := by unfold dec; rw [if_neg h20, hd12, if_pos hb]
      rw [hdec]
      by_cases b1 : h < 20
      · have t2 : decide ((h : Int) < 20) = true := decide_eq_true (by omega)
        go_enter Try.func8, Try.ntmps8
        go_wp2_with fail
        exact bodyPost_ret (v := .tuple #[.agg (sgv zeroSg), .int .i64 8]) (by simp [results, Try.results8, go_sem]; rfl) rfl ⟨rfl, below_new _⟩
      · have t2 : decide ((h : Int) < 20) = false := decide_eq_false (by omega)
        have b2 := hb.resolve_left b1
        have t3 : decide ((h : Int) > (l.length : Int)) = true := decide_eq_true (by omega)
        have t3' : decide ((l.length : Int) < (h : Int)) = true := decide_eq_true (by omega)
        go_enter Try.func8, Try.ntmps8
        go_wp2_with fail
        exact bodyPost_ret (v := .tuple #[.agg (sgv zeroSg), .int .i64 8]) (by simp [results, Try.results8, go_sem]; rfl) rfl ⟨rfl, below_new _⟩
    · have t2 : decide ((h : Int) < 20) = false := decide_eq_false (by omega)
      have t3 : decide ((h : Int) > (l.length : Int)) = false := decide_eq_false (by omega)
      have t3' : decide ((l.length : Int) < (h : Int)) = false := decide_eq_false (by omega)
      have hsum := fun w => segsum_any l src dst w hl hs hd
      by_cases hc : csum l src dst = 0
      · rw [hc] at hsum
        have HSUM := hid hsum
        clear hsum
        have i20 : (20 : Int) ≤ (h : Int) := by omega
        have ihl : (h : Int) ≤ (l.length : Int) := by omega
        have hsl : ((l.drop 20).take (h - 20)).length ≤ 255 := by rw [List.length_take]; omega
        have hdt : (l.take h).drop 20 = (l.drop 20).take (h - 20) := by rw [List.drop_take]
        have hdec : dec l src dst = match readO ((l.drop 20).take (h - 20)) ⟨0, false, 0⟩ with
            | none => .inr 8
            | some o => .inl ⟨SG.val (l.take 2), SG.val ((l.drop 2).take 2), SG.val ((l.drop 4).take 4), SG.val ((l.drop 8).take 4), (at8 l 13).toNat, SG.val ((l.drop 14).take 2), if syn (at8 l 13).toNat then o.mss else 0, syn (at8 l 13).toNat && o.has, if syn (at8 l 13).toNat then o.scale else 0, l.drop h⟩ := by
          rw [← hdt]
          unfold dec
          rw [if_neg h20, hd12, if_neg hb, if_neg (by simp [hc])]
          rfl
        have HDEC := hid hdec
        clear hdec hdt hd12 hb hc
        go_enter Try.func8, Try.ntmps8
        go_wp2_with fail
        refine (HSUM.out _).mono ?_
        rintro e w1 ⟨rfl, hb1⟩
        have R1 := hid (keepB hb1 (alloc_at W _))
        have B1 := hid (below_to (below_new _) hb1)
        clear hb1
        go_wp2_with fail
        have R2 := hid (alloc_old (o' := .cells #[.int .u16 0, .bool false, .int .u8 0] 42) R1.out)
        have B2 := hid (below_alloc B1.out (.cells #[.int .u16 0, .bool false, .int .u8 0] 42))
        have hRO : W.heap.size < w1.heap.size := lt_blk R1.out
        have hsz2 : ∀ ob, w1.heap.size ≤ (w1.alloc ob).heap.size := fun ob => by simp
        refine (read_any ⟨0, false, 0⟩ ((l.drop 20).take (h - 20)) w1.heap.size 42 _ hsl (alloc_at w1 _)).mono ?_
        rintro e w2 ⟨hon, hm⟩
        have R3 := (hon.block W.heap.size (lt_blk R2.out) (by omega)).trans R2.out
        have B3 := hid (B2.out.trans (hon.below (B := W.heap.size) (by omega) (Nat.le_trans (Nat.le_of_lt hRO) (hsz2 _))))
        have hf := free_at R3
        obtain ⟨c0, c1, c2, c3, c4, c5, c6, c7, c8, c9⟩ := ten_cells R3
        have R3' := hid R3
        clear R3 R2 B2 R1 B1 hon
        cases hr : readO ((l.drop 20).take (h - 20)) ⟨0, false, 0⟩ with
        | none =>
          rw [hr] at hm
          simp only [] at hm
          subst hm
          go_wp2_with fail
          rw [set10 R3'.out]
          have RN := hid (blk_heap (o := .cells (sgv zeroSg) 25 (0, 0)) (lt_blk R3'.out))
          exact bodyPost_ret (results_cell_tmp Try.results8 _ _ W.heap.size _ (sgv zeroSg) _ _ (by rfl) (by rfl) RN.out Try.underlying25 rfl (by rw [info_seg]; rfl)) rfl ⟨by rw [HDEC.out, hr]; rfl, below_blk' B3.out (Nat.le_refl _) _⟩
        | some o =>
          rw [hr] at hm
          simp only [] at hm
          obtain ⟨rfl, hO⟩ := hm
          have HO := hid hO
          clear hO
          go_wp2_with fail
          have e0 : (2 : Int) ≤ (l.length : Int) := by omega
          have e1 : (4 : Int) ≤ (l.length : Int) := by omega
          have e2 : (8 : Int) ≤ (l.length : Int) := by omega
          have e3 : (12 : Int) ≤ (l.length : Int) := by omega
          have e4 : (16 : Int) ≤ (l.length : Int) := by omega
          have e5 : (13 : Int) < (l.length : Int) := by omega
          have e6 : 0 ≤ (h : Int) := by omega
          have C1 := hid (fun w => rsame (value_any (l.take 2) w (by rw [List.length_take]; omega)))
          have C2 := hid (fun w => rsame (value_any ((l.drop 2).take 2) w (by rw [List.length_take]; omega)))
          have C3 := hid (fun w => rsame (value_any ((l.drop 4).take 4) w (by rw [List.length_take]; omega)))
          have C4 := hid (fun w => rsame (value_any ((l.drop 8).take 4) w (by rw [List.length_take]; omega)))
          have C5 := hid (fun w => rsame (value_any ((l.drop 14).take 2) w (by rw [List.length_take]; omega)))
          have b1 : SG.val (l.take 2) < 65536 := val_bound _ 2 (by rw [List.length_take]; omega)
          have b2 : SG.val ((l.drop 2).take 2) < 65536 := val_bound _ 2 (by rw [List.length_take]; omega)
          have b3 : SG.val ((l.drop 4).take 4) < 4294967296 := val_bound _ 4 (by rw [List.length_take]; omega)
          have b4 : SG.val ((l.drop 8).take 4) < 4294967296 := val_bound _ 4 (by rw [List.length_take]; omega)
          have b5 : SG.val ((l.drop 14).take 2) < 65536 := val_bound _ 2 (by rw [List.length_take]; omega)
          have wv1 : IntKind.u16.wrap (SG.val (l.take 2) : Int) = (SG.val (l.take 2) : Int) := IntWalk.u16_in _ (by omega)
          have wv2 : IntKind.u16.wrap (SG.val ((l.drop 2).take 2) : Int) = (SG.val ((l.drop 2).take 2) : Int) := IntWalk.u16_in _ (by omega)
          have wv3 : IntKind.u32.wrap (SG.val ((l.drop 4).take 4) : Int) = (SG.val ((l.drop 4).take 4) : Int) := IntWalk.u32_in _ (by omega)
          have wv4 : IntKind.u32.wrap (SG.val ((l.drop 8).take 4) : Int) = (SG.val ((l.drop 8).take 4) : Int) := IntWalk.u32_in _ (by omega)
          have wv5 : IntKind.u16.wrap (SG.val ((l.drop 14).take 2) : Int) = (SG.val ((l.drop 14).take 2) : Int) := IntWalk.u16_in _ (by omega)
          obtain ⟨f, hf13⟩ : ∃ f, at8 l 13 = f := ⟨_, rfl⟩
          have hdd := HDEC.out
          rw [hr, hf13] at hdd
          have hdd2 := hid hdd
          obtain ⟨v1, hv1⟩ : ∃ v, SG.val (l.take 2) = v := ⟨_, rfl⟩
          obtain ⟨v2, hv2⟩ : ∃ v, SG.val ((l.drop 2).take 2) = v := ⟨_, rfl⟩
          obtain ⟨v3, hv3⟩ : ∃ v, SG.val ((l.drop 4).take 4) = v := ⟨_, rfl⟩
          obtain ⟨v4, hv4⟩ : ∃ v, SG.val ((l.drop 8).take 4) = v := ⟨_, rfl⟩
          obtain ⟨v5, hv5⟩ : ∃ v, SG.val ((l.drop 14).take 2) = v := ⟨_, rfl⟩
          rw [hv1] at wv1 hdd2 C1
          rw [hv2] at wv2 hdd2 C2
          rw [hv3] at wv3 hdd2 C3
          rw [hv4] at wv4 hdd2 C4
          rw [hv5] at wv5 hdd2 C5
          clear hdd HDEC hv1 hv2 hv3 hv4 hv5 b1 b2 b3 b4 b5 c0 c1 c2 c3 c4 c5 c6 c7 c8 c9 hf hr HSUM hsl hx
          have htl : List.take (l.length - h) (l.drop h) = l.drop h := List.take_of_length_le (by rw [List.length_drop]; exact Nat.le_refl _)
          refine wp_region_flt 26 27 ((w2.alloc (.cells #[.int .u16 0, .int .u16 0, .int .u32 0, .int .u32 0, .int .u8 0, .int .u16 0, .int .u16 0, .bool false, .int .u8 0, .string ⟨#[]⟩] 25)).drew) ((w2.alloc (.cells #[.int .u16 (v1 : Int), .int .u16 (v2 : Int), .int .u32 (v3 : Int), .int .u32 (v4 : Int), .int .u8 (f.toNat : Int), .int .u16 (v5 : Int), .int .u16 0, .bool false, .int .u8 0, .string (bs (l.drop h))] 25)).drew) (by kernel_rfl) (by kernel_rfl) (by decide) (by decide) (by kernel_rfl) ?_
          repeat (first | (refine wpFlt_quiet (by decide) (by decide) (fun K hK => ?_); go_simp; refine hK _ ?_; clear hK K; try go_ints) | (refine wpFlt_quiet (by decide) (by decide) (fun K hK => ?_); go_simp; refine ⟨_, (by with_reducible exact C1.out _), (by with_reducible exact C1.out _), (by with_reducible exact C1.out _), hK _ ?_⟩; clear hK K; try go_ints) | (refine wpFlt_quiet (by decide) (by decide) (fun K hK => ?_); go_simp; refine ⟨_, (by with_reducible exact C2.out _), (by with_reducible exact C2.out _), (by with_reducible exact C2.out _), hK _ ?_⟩; clear hK K; try go_ints) | (refine wpFlt_quiet (by decide) (by decide) (fun K hK => ?_); go_simp; refine ⟨_, (by with_reducible exact C3.out _), (by with_reducible exact C3.out _), (by with_reducible exact C3.out _), hK _ ?_⟩; clear hK K; try go_ints) | (refine wpFlt_quiet (by decide) (by decide) (fun K hK => ?_); go_simp; refine ⟨_, (by with_reducible exact C4.out _), (by with_reducible exact C4.out _), (by with_reducible exact C4.out _), hK _ ?_⟩; clear hK K; try go_ints) | (refine wpFlt_quiet (by decide) (by decide) (fun K hK => ?_); go_simp; refine ⟨_, (by with_reducible exact C5.out _), (by with_reducible exact C5.out _), (by with_reducible exact C5.out _), hK _ ?_⟩; clear hK K; try go_ints))
          refine wpFlt_make (by rfl) (by rfl) (fun K hK => ?_)
          go_simp
          refine hK _ ?_
          clear hK K
          refine wpFlt_store (by rfl) (by decide) (by rfl) (fun K hK => ?_)
          go_simp
          refine hK _ ?_
          clear hK K
          refine wpFlt_nil ?_
          have G3 := alloc_at w2 (.cells #[.int .u16 (v1 : Int), .int .u16 (v2 : Int), .int .u32 (v3 : Int), .int .u32 (v4 : Int), .int .u8 (f.toNat : Int), .int .u16 (v5 : Int), .int .u16 0, .bool false, .int .u8 0, .string (bs (l.drop h))] 25)
          have O3 := alloc_old (o' := .cells #[.int .u16 (v1 : Int), .int .u16 (v2 : Int), .int .u32 (v3 : Int), .int .u32 (v4 : Int), .int .u8 (f.toNat : Int), .int .u16 (v5 : Int), .int .u16 0, .bool false, .int .u8 0, .string (bs (l.drop h))] 25) HO.out
          have R3 := alloc_old (o' := .cells #[.int .u16 (v1 : Int), .int .u16 (v2 : Int), .int .u32 (v3 : Int), .int .u32 (v4 : Int), .int .u8 (f.toNat : Int), .int .u16 (v5 : Int), .int .u16 0, .bool false, .int .u8 0, .string (bs (l.drop h))] 25) R3'.out
          have B4 := hid ((below_alloc B3.out (.cells #[.int .u16 (v1 : Int), .int .u16 (v2 : Int), .int .u32 (v3 : Int), .int .u32 (v4 : Int), .int .u8 (f.toNat : Int), .int .u16 (v5 : Int), .int .u16 0, .bool false, .int .u8 0, .string (bs (l.drop h))] 25)).drew)
          obtain ⟨G, hG⟩ : ∃ G, w2.heap.size = G := ⟨_, rfl⟩
          obtain ⟨ob, hob⟩ : ∃ ob, w1.heap.size = ob := ⟨_, rfl⟩
          have hobG : ob < G := by rw [← hG, ← hob]; exact lt_blk HO.out
          have hRob : W.heap.size < ob := by rw [← hob]; exact hRO
          rw [hG] at G3 ⊢
          rw [hob] at O3 ⊢
          replace G3 : (w2.alloc (.cells #[.int .u16 (v1 : Int), .int .u16 (v2 : Int), .int .u32 (v3 : Int), .int .u32 (v4 : Int), .int .u8 (f.toNat : Int), .int .u16 (v5 : Int), .int .u16 0, .bool false, .int .u8 0, .string (bs (l.drop h))] 25)).drew.heap[G]? = _ := G3
          replace O3 : (w2.alloc (.cells #[.int .u16 (v1 : Int), .int .u16 (v2 : Int), .int .u32 (v3 : Int), .int .u32 (v4 : Int), .int .u8 (f.toNat : Int), .int .u16 (v5 : Int), .int .u16 0, .bool false, .int .u8 0, .string (bs (l.drop h))] 25)).drew.heap[ob]? = _ := O3
          replace R3 : (w2.alloc (.cells #[.int .u16 (v1 : Int), .int .u16 (v2 : Int), .int .u32 (v3 : Int), .int .u32 (v4 : Int), .int .u8 (f.toNat : Int), .int .u16 (v5 : Int), .int .u16 0, .bool false, .int .u8 0, .string (bs (l.drop h))] 25)).drew.heap[W.heap.size]? = _ := R3
          clear hG hob HO R3' B3 hsz2 C1 C2 C3 C4 C5 hRO
          generalize (w2.alloc (.cells #[.int .u16 (v1 : Int), .int .u16 (v2 : Int), .int .u32 (v3 : Int), .int .u32 (v4 : Int), .int .u8 (f.toNat : Int), .int .u16 (v5 : Int), .int .u16 0, .bool false, .int .u8 0, .string (bs (l.drop h))] 25)).drew = w3 at *
          have hand := and_syn f.toNat f.toNat_lt
          have G3' := hid G3
          have O3' := hid O3
          have R3' := hid R3
          obtain ⟨c0, c1, c2, c3, c4, c5, c6, c7, c8, c9⟩ := ten_cells G3
          cases hsy : syn f.toNat
          · rw [hsy, if_neg (by decide)] at hand
            rw [hsy] at hdd2
            obtain ⟨d0, d1, d2, d3, d4, d5, d6, d7, d8, d9⟩ := ten_cells R3
            have hf := free_at R3
            clear G3 O3 R3
            go_wp2_with fail
            rw [set10 R3'.out]
            have RN := hid (blk_heap (w := w3) (b := W.heap.size) (o := .cells (sgv ⟨v1, v2, v3, v4, f.toNat, v5, 0, false, 0, l.drop h⟩) 25 (0, 0)) (lt_blk R3'.out))
            exact bodyPost_ret (results_cell_tmp Try.results8 _ _ W.heap.size _ (sgv ⟨v1, v2, v3, v4, f.toNat, v5, 0, false, 0, l.drop h⟩) _ _ (by rfl) (by rfl) RN.out Try.underlying25 rfl (by rw [info_seg]; rfl)) rfl ⟨by rw [hdd2.out]; rfl, below_blk' B4.out (Nat.le_refl _) _⟩
          · rw [hsy, if_pos rfl] at hand
            rw [hsy] at hdd2
            have hf := free_at G3
            have o0 := cell_at O3 0
            have o1 := cell_at O3 1
            have o2 := cell_at O3 2
            unfold orow at o0 o1 o2
            simp only [List.getElem?_toArray, List.getElem?_cons_zero, List.getElem?_cons_succ] at o0 o1 o2
            clear G3 O3 R3
            go_wp2_with fail
            go_region
            have G4 : (((w3.setCell ⟨G, 6, none⟩ (.int .u16 (o.mss : Int))).setCell ⟨G, 7, none⟩ (.bool o.has)).setCell ⟨G, 8, none⟩ (.int .u8 (o.scale : Int))).drew.heap[G]? = some (.cells (sgv ⟨v1, v2, v3, v4, f.toNat, v5, o.mss, o.has, o.scale, l.drop h⟩) 25 (0, 0)) := at_setCell (at_setCell (at_setCell G3'.out 6 _) 7 _) 8 _
            have R4 : (((w3.setCell ⟨G, 6, none⟩ (.int .u16 (o.mss : Int))).setCell ⟨G, 7, none⟩ (.bool o.has)).setCell ⟨G, 8, none⟩ (.int .u8 (o.scale : Int))).drew.heap[W.heap.size]? = _ := at_setCell_other (at_setCell_other (at_setCell_other R3'.out (by show W.heap.size ≠ G; omega) _) (by show W.heap.size ≠ G; omega) _) (by show W.heap.size ≠ G; omega) _
            have B5 := hid ((((B4.out.setCell (p := ⟨G, 6, none⟩) (by show W.heap.size ≤ G; omega) (.int .u16 (o.mss : Int))).setCell (p := ⟨G, 7, none⟩) (by show W.heap.size ≤ G; omega) (.bool o.has)).setCell (p := ⟨G, 8, none⟩) (by show W.heap.size ≤ G; omega) (.int .u8 (o.scale : Int))).drew)
            clear c0 c1 c2 c3 c4 c5 c6 c7 c8 c9 hf o0 o1 o2 B4
            generalize (((w3.setCell ⟨G, 6, none⟩ (.int .u16 (o.mss : Int))).setCell ⟨G, 7, none⟩ (.bool o.has)).setCell ⟨G, 8, none⟩ (.int .u8 (o.scale : Int))).drew = w4 at *
            obtain ⟨c0, c1, c2, c3, c4, c5, c6, c7, c8, c9⟩ := ten_cells G4
            obtain ⟨d0, d1, d2, d3, d4, d5, d6, d7, d8, d9⟩ := ten_cells R4
            have hf := free_at R4
            have R4' := hid R4
            clear G4 R4
            go_wp2_with fail
            rw [set10 R4'.out]
            have RN := hid (blk_heap (w := w4) (b := W.heap.size) (o := .cells (sgv ⟨v1, v2, v3, v4, f.toNat, v5, o.mss, o.has, o.scale, l.drop h⟩) 25 (0, 0)) (lt_blk R4'.out))
            exact bodyPost_ret (results_cell_tmp Try.results8 _ _ W.heap.size _ (sgv ⟨v1, v2, v3, v4, f.toNat, v5, o.mss, o.has, o.scale, l.drop h⟩) _ _ (by rfl) (by rfl) RN.out Try.underlying25 rfl (by rw [info_seg]; rfl)) rfl ⟨by rw [hdd2.out]; simp [told], below_blk' B5.out (Nat.le_refl _) _⟩
      · have hdec : dec l src dst = .inr 180 := by unfold dec; rw [if_neg h20, hd12, if_neg hb, if_pos hc]
        rw [hdec]
        have hne : ((csum l src dst : Int) != 0) = true := by rw [bne_iff_ne]; omega
        have HSUM := hid hsum
        generalize csum l src dst = cs at *
        clear hsum hdec
        go_enter Try.func8, Try.ntmps8
        go_wp2_with fail
        refine (HSUM.out _).mono ?_
        rintro e w1 ⟨rfl, hb1⟩
        have R1 := keepB hb1 (alloc_at W _)
        have B1 := hid (below_to (below_new _) hb1)
        obtain ⟨c0, c1, c2, c3, c4, c5, c6, c7, c8, c9⟩ := ten_cells R1
        have hf := free_at R1
        have R1' := hid R1
        clear R1 hb1
        go_wp2_with fail
        rw [set10 R1'.out]
        have RN := hid (blk_heap (o := .cells (sgv zeroSg) 25 (0, 0)) (lt_blk R1'.out))
        exact bodyPost_ret (results_cell_tmp Try.results8 _ _ W.heap.size _ (sgv zeroSg) _ _ (by rfl) (by rfl) RN.out Try.underlying25 rfl (by rw [info_seg]; rfl)) rfl ⟨rfl, below_blk' B1.out (Nat.le_refl _) _⟩

end Go.Proofs.Ytidkbphdihlbaaa
