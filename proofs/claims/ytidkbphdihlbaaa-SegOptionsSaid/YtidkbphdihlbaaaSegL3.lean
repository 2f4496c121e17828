/- The walk of the law SegPlaces. -/
import Derived.Test.YtidkbphdihlbaaaSegL2
import Derived.Test.YtidkbphdihlbaaaSegW6
namespace Go.Proofs.Ytidkbphdihlbaaa
open Go.RowKit SG

theorem and_fin (n : Nat) (h : n < 256) : bits .and .u8 (n : Int) (1 : Int) = if fin n then 1 else 0 := by
  have h2 := u8_and_nat n 1 h (by omega)
  have h3 : ∀ m, m < 256 → ((m &&& 1 : Nat) : Int) = if fin m then 1 else 0 := by decide +kernel
  exact h2.trans (h3 n h)
theorem bytes_12 (g : Sg) (hf : g.Fits) (src dst : Nat) : (at8 (g.bytes src dst) 12).toNat / 16 * 4 = 20 + g.opts.length := by
  obtain ⟨c, _, he⟩ := bytes_split g hf src dst
  have hl := opts_len g
  have : at8 (g.bytes src dst) 12 = UInt8.ofNat ((20 + g.opts.length) * 4) := by
    rw [he]
    unfold at8
    have b1 := be_length 2 g.src
    have b2 := be_length 2 g.dst
    have b3 := be_length 4 g.seq
    have b4 := be_length 4 g.ack
    simp only [List.append_assoc]
    rw [← List.append_assoc, ← List.append_assoc, ← List.append_assoc, List.getD_eq_getElem?_getD, List.getElem?_append_right (by simp [b1, b2, b3, b4])]
    simp [b1, b2, b3, b4]
  rw [this, UInt8.toNat_ofNat']; omega
theorem len_of (g : Sg) : lenOf g = g.data.length + (if syn g.flags then 1 else 0) + (if fin g.flags then 1 else 0) := by
  unfold lenOf syn fin
  have h1 : g.flags / 2 % 2 = 0 ∨ g.flags / 2 % 2 = 1 := by omega
  have h2 : g.flags % 2 = 0 ∨ g.flags % 2 = 1 := by omega
  rcases h1 with h1 | h1 <;> rcases h2 with h2 | h2 <;> simp [h1, h2]

set_option maxRecDepth 100000 in
set_option maxHeartbeats 8000000 in
theorem places_any (g : Sg) (src dst at_ : Nat) (W : World) (hf : g.Fits) (hsr : src < 4294967296) (hds : dst < 4294967296) (hat : at_ < 65536) (hdl : g.data.length ≤ maxLen) :
    Calls Try.prog 4 #[.agg (sgv g), .int .u32 (src : Int), .int .u32 (dst : Int), .int .u16 (at_ : Int)] W fun e w' => e = .returned (.bool true) ∧ Below W.heap.size W w' := by
  have henc := fun w => encode_any g src dst w hf hsr hds
  have hbad : g.bad = true → encRes g src dst = .tuple #[.string ⟨#[]⟩, .int .i64 2] := fun h => by unfold encRes; rw [if_pos h]
  have hlong : g.bad = false → 1460 < g.data.length → encRes g src dst = .tuple #[.string ⟨#[]⟩, .int .i64 4] := fun h h2 => by unfold encRes; rw [h, if_neg (by decide), if_pos h2]
  have hok : g.bad = false → ¬ 1460 < g.data.length → encRes g src dst = .tuple #[.string (bs (g.bytes src dst)), .int .i64 0] := fun h h2 => by unfold encRes; rw [h, if_neg (by decide), if_neg h2]
  have hblen := bytes_len g src dst
  have holen := opts_len g
  have hx12 := bytes_12 g hf src dst
  have HSYN := hid (len_of g)
  generalize hB : g.bytes src dst = B at *
  obtain ⟨bad, hbd⟩ : ∃ b, g.bad = b := ⟨_, rfl⟩
  rw [hbd] at hbad hlong hok
  generalize encRes g src dst = er at *
  unfold maxLen at hdl
  by_cases h13 : 8192 < g.data.length
  · have t1 : decide ((g.data.length : Int) > 8192) = true := decide_eq_true (by omega)
    have t1' : decide (8192 < (g.data.length : Int)) = true := decide_eq_true (by omega)
    have hbz : (bs g.data).size = g.data.length := rfl
    clear henc hbad hlong hok hblen holen hB hf hx12 HSYN
    obtain ⟨gs, gd, seq, ack, flags, wnd, mss, has, scale, data⟩ := g
    unfold sgv
    simp only [] at t1 t1' h13 hbz hdl ⊢
    go_enter Try.func4, Try.ntmps4
    go_wp2_with fail
    refine (works_any _).mono ?_
    rintro e w1 ⟨rfl, hb1⟩
    go_wp2_with fail
    go_ret
    exact ⟨rfl, below_to (below_new _) hb1⟩
  · cases bad
    · by_cases hl : 1460 < g.data.length
      · rw [hlong rfl hl] at henc
        clear hl
        have HE := hid henc
        clear henc hbad hlong hok hblen holen hB hf hx12 HSYN
        obtain ⟨gs, gd, seq, ack, flags, wnd, mss, has, scale, data⟩ := g
        simp only [] at h13 hdl
        have hbz : (bs data).size = data.length := rfl
        have t1 : decide ((data.length : Int) > 8192) = false := decide_eq_false (by omega)
        have t1' : decide (8192 < (data.length : Int)) = false := decide_eq_false (by omega)
        unfold sgv at HE ⊢
        simp only [] at HE ⊢
        go_enter Try.func4, Try.ntmps4
        go_wp2_with fail
        refine (HE.out _).mono ?_
        rintro e w1 ⟨rfl, hb1⟩
        have B1 := hid (below_to (below_new _) hb1)
        clear hb1
        go_wp2_with fail
        refine (works_any _).mono ?_
        rintro e w2 ⟨rfl, hb2⟩
        go_wp2_with fail
        go_ret
        exact ⟨rfl, below_to B1.out hb2⟩
      · rw [hok rfl hl] at henc
        have HE := hid henc
        have hB20 : 20 ≤ B.length := by omega
        have hBl : B.length ≤ 2000 := by omega
        have hdB : B.length - (20 + g.opts.length) = g.data.length := by omega
        have hoB : 20 + g.opts.length ≤ B.length := by omega
        generalize hO : 20 + g.opts.length = ol at *
        have hlen := fun w => len_any g w hf.flags (by omega)
        have hand := and_syn g.flags hf.flags
        have hand1 := and_fin g.flags hf.flags
        have hlo := HSYN.out
        clear henc hbad hlong hok hB hf HSYN hblen holen hl hO
        generalize lenOf g = lo at *
        obtain ⟨gs, gd, seq, ack, flags, wnd, mss, has, scale, data⟩ := g
        simp only [] at h13 hdl hdB hand hand1 hlo
        have hbz : (bs data).size = data.length := rfl
        have t1 : decide ((data.length : Int) > 8192) = false := decide_eq_false (by omega)
        have t1' : decide (8192 < (data.length : Int)) = false := decide_eq_false (by omega)
        have hbB : (bs B).size = B.length := rfl
        have t2 : decide ((B.length : Int) < 20) = false := decide_eq_false (by omega)
        have hw16 : IntKind.i64.wrap (at_ : Int) = (at_ : Int) := IntWalk.i64_in _ (by omega)
        obtain ⟨m, hm⟩ : ∃ m, at_ % B.length = m := ⟨_, rfl⟩
        have hm1 : m < B.length := by rw [← hm]; exact Nat.mod_lt _ (by omega)
        have hmm : (at_ : Int) % (B.length : Int) = (m : Int) := by rw [← hm]; exact (Int.natCast_emod ..).symm
        have hne : ¬ B.length = 0 := by omega
        have m0 : 0 ≤ (m : Int) := by omega
        have m1 : (m : Int) ≤ (B.length : Int) := by omega
        have i12 : (12 : Int) < (B.length : Int) := by omega
        obtain ⟨x, hx⟩ : ∃ x, at8 B 12 = x := ⟨_, rfl⟩
        rw [hx] at hx12
        have hxl := x.toNat_lt
        have hw4 : IntKind.u32.wrap (4 * ((x.toNat : Int) / 16)) = (ol : Int) := by rw [show (4 : Int) * ((x.toNat : Int) / 16) = (ol : Int) by omega]; exact IntWalk.u32_in _ (by omega)
        have hw4' : (4 : Int) * ((x.toNat : Int) / 16) = (ol : Int) := by omega
        have hwB : IntKind.u32.wrap (B.length : Int) = (B.length : Int) := IntWalk.u32_in _ (by omega)
        have hws : IntKind.u32.wrap ((B.length : Int) - (ol : Int)) = (data.length : Int) := by rw [show (B.length : Int) - (ol : Int) = (data.length : Int) by omega]; exact IntWalk.u32_in _ (by omega)
        have hws' : (B.length : Int) - (ol : Int) = (data.length : Int) := by omega
        have hd := fun w => decode_any (B.take m) src dst w (by rw [List.length_take]; omega) hsr hds
        have hr := fun w => rsum_any (B.take m) src dst w (by rw [List.length_take]; omega) hsr hds
        have hdl2 : data.length ≤ 2000 := by omega
        clear hm hx12 hdB hoB hB20
        unfold sgv at HE hlen ⊢
        simp only [] at HE hlen ⊢
        cases hres : dec (B.take m) src dst with
        | inl r =>
          have hc0 := dec_sum hres
          rw [hc0] at hr
          rw [hres, show told (.inl r) = .tuple #[.agg #[.int .u16 (r.src : Int), .int .u16 (r.dst : Int), .int .u32 (r.seq : Int), .int .u32 (r.ack : Int), .int .u8 (r.flags : Int), .int .u16 (r.wnd : Int), .int .u16 (r.mss : Int), .bool r.has, .int .u8 (r.scale : Int), .string (bs r.data)], .int .i64 0] from rfl] at hd
          have HD := hid hd
          have HR := hid hr
          clear hd hr hc0 hres
          cases hs0 : syn flags
          · rw [hs0, if_neg (by decide)] at hand
            cases hf0 : fin flags
            · rw [hf0, if_neg (by decide)] at hand1
              rw [hs0, hf0] at hlo
              simp only [if_true, Bool.false_eq_true, if_false, Nat.add_zero] at hlo
              have HLO := hid hlo
              have HL := hid (fun w => (hlen w).mono (R' := fun e w' => e = .returned (.int .u32 ((data.length : Nat) : Int)) ∧ Below w.heap.size w w') (fun e w' ⟨h1, h2⟩ => ⟨by rw [h1, HLO.out], h2⟩))
              clear hlen hlo hs0 hf0
              go_enter Try.func4, Try.ntmps4
              go_wp2_with fail
              refine (HE.out _).mono ?_
              rintro e w1 ⟨rfl, hb1⟩
              have G1 := hid (keepB hb1 (alloc_at W _))
              have B1 := hid (below_to (below_new _) hb1)
              clear hb1
              go_wp2_with fail
              refine (HD.out _).mono ?_
              rintro e w2 ⟨rfl, hb2⟩
              have G2 := hid (alloc_old (o' := (.cells #[.int .u16 (r.src : Int), .int .u16 (r.dst : Int), .int .u32 (r.seq : Int), .int .u32 (r.ack : Int), .int .u8 (r.flags : Int), .int .u16 (r.wnd : Int), .int .u16 (r.mss : Int), .bool r.has, .int .u8 (r.scale : Int), .string (bs r.data)] 25)) (keepB hb2 G1.out))
              have B2 := hid (below_alloc (below_to B1.out hb2) (.cells #[.int .u16 (r.src : Int), .int .u16 (r.dst : Int), .int .u32 (r.seq : Int), .int .u32 (r.ack : Int), .int .u8 (r.flags : Int), .int .u16 (r.wnd : Int), .int .u16 (r.mss : Int), .bool r.has, .int .u8 (r.scale : Int), .string (bs r.data)] 25))
              obtain ⟨c0, c1, c2, c3, c4, c5, c6, c7, c8, c9⟩ := ten_cells G2.out
              clear hb2 G1 B1 G2
              go_wp2_with fail
              refine (HL.out _).mono ?_
              rintro e w3 ⟨rfl, hb3⟩
              have B3 := hid (below_to B2.out hb3)
              clear hb3 B2 c0 c1 c2 c3 c4 c5 c6 c7 c8 c9
              go_wp2_with fail
              refine (HR.out _).mono ?_
              rintro e w4 ⟨rfl, hb4⟩
              have B4 := hid (below_to B3.out hb4)
              clear hb4 B3
              go_wp2_with fail
              refine (works_any _).mono ?_
              rintro e w5 ⟨rfl, hb5⟩
              go_wp2_with fail
              go_ret
              exact ⟨rfl, below_to B4.out hb5⟩
            · rw [hf0, if_pos rfl] at hand1
              rw [hs0, hf0] at hlo
              simp only [if_true, Bool.false_eq_true, if_false, Nat.add_zero] at hlo
              have HLO := hid hlo
              have HL := hid (fun w => (hlen w).mono (R' := fun e w' => e = .returned (.int .u32 ((data.length + 1 : Nat) : Int)) ∧ Below w.heap.size w w') (fun e w' ⟨h1, h2⟩ => ⟨by rw [h1, HLO.out], h2⟩))
              clear hlen hlo hs0 hf0
              go_enter Try.func4, Try.ntmps4
              go_wp2_with fail
              refine (HE.out _).mono ?_
              rintro e w1 ⟨rfl, hb1⟩
              have G1 := hid (keepB hb1 (alloc_at W _))
              have B1 := hid (below_to (below_new _) hb1)
              clear hb1
              go_wp2_with fail
              refine (HD.out _).mono ?_
              rintro e w2 ⟨rfl, hb2⟩
              have G2 := hid (alloc_old (o' := (.cells #[.int .u16 (r.src : Int), .int .u16 (r.dst : Int), .int .u32 (r.seq : Int), .int .u32 (r.ack : Int), .int .u8 (r.flags : Int), .int .u16 (r.wnd : Int), .int .u16 (r.mss : Int), .bool r.has, .int .u8 (r.scale : Int), .string (bs r.data)] 25)) (keepB hb2 G1.out))
              have B2 := hid (below_alloc (below_to B1.out hb2) (.cells #[.int .u16 (r.src : Int), .int .u16 (r.dst : Int), .int .u32 (r.seq : Int), .int .u32 (r.ack : Int), .int .u8 (r.flags : Int), .int .u16 (r.wnd : Int), .int .u16 (r.mss : Int), .bool r.has, .int .u8 (r.scale : Int), .string (bs r.data)] 25))
              obtain ⟨c0, c1, c2, c3, c4, c5, c6, c7, c8, c9⟩ := ten_cells G2.out
              clear hb2 G1 B1 G2
              go_wp2_with fail
              refine (HL.out _).mono ?_
              rintro e w3 ⟨rfl, hb3⟩
              have B3 := hid (below_to B2.out hb3)
              clear hb3 B2 c0 c1 c2 c3 c4 c5 c6 c7 c8 c9
              go_wp2_with fail
              refine (HR.out _).mono ?_
              rintro e w4 ⟨rfl, hb4⟩
              have B4 := hid (below_to B3.out hb4)
              clear hb4 B3
              go_wp2_with fail
              refine (works_any _).mono ?_
              rintro e w5 ⟨rfl, hb5⟩
              go_wp2_with fail
              go_ret
              exact ⟨rfl, below_to B4.out hb5⟩
          · rw [hs0, if_pos rfl] at hand
            cases hf0 : fin flags
            · rw [hf0, if_neg (by decide)] at hand1
              rw [hs0, hf0] at hlo
              simp only [if_true, Bool.false_eq_true, if_false, Nat.add_zero] at hlo
              have HLO := hid hlo
              have HL := hid (fun w => (hlen w).mono (R' := fun e w' => e = .returned (.int .u32 ((data.length + 1 : Nat) : Int)) ∧ Below w.heap.size w w') (fun e w' ⟨h1, h2⟩ => ⟨by rw [h1, HLO.out], h2⟩))
              clear hlen hlo hs0 hf0
              go_enter Try.func4, Try.ntmps4
              go_wp2_with fail
              refine (HE.out _).mono ?_
              rintro e w1 ⟨rfl, hb1⟩
              have G1 := hid (keepB hb1 (alloc_at W _))
              have B1 := hid (below_to (below_new _) hb1)
              clear hb1
              go_wp2_with fail
              refine (HD.out _).mono ?_
              rintro e w2 ⟨rfl, hb2⟩
              have G2 := hid (alloc_old (o' := (.cells #[.int .u16 (r.src : Int), .int .u16 (r.dst : Int), .int .u32 (r.seq : Int), .int .u32 (r.ack : Int), .int .u8 (r.flags : Int), .int .u16 (r.wnd : Int), .int .u16 (r.mss : Int), .bool r.has, .int .u8 (r.scale : Int), .string (bs r.data)] 25)) (keepB hb2 G1.out))
              have B2 := hid (below_alloc (below_to B1.out hb2) (.cells #[.int .u16 (r.src : Int), .int .u16 (r.dst : Int), .int .u32 (r.seq : Int), .int .u32 (r.ack : Int), .int .u8 (r.flags : Int), .int .u16 (r.wnd : Int), .int .u16 (r.mss : Int), .bool r.has, .int .u8 (r.scale : Int), .string (bs r.data)] 25))
              obtain ⟨c0, c1, c2, c3, c4, c5, c6, c7, c8, c9⟩ := ten_cells G2.out
              clear hb2 G1 B1 G2
              go_wp2_with fail
              refine (HL.out _).mono ?_
              rintro e w3 ⟨rfl, hb3⟩
              have B3 := hid (below_to B2.out hb3)
              clear hb3 B2 c0 c1 c2 c3 c4 c5 c6 c7 c8 c9
              go_wp2_with fail
              refine (HR.out _).mono ?_
              rintro e w4 ⟨rfl, hb4⟩
              have B4 := hid (below_to B3.out hb4)
              clear hb4 B3
              go_wp2_with fail
              refine (works_any _).mono ?_
              rintro e w5 ⟨rfl, hb5⟩
              go_wp2_with fail
              go_ret
              exact ⟨rfl, below_to B4.out hb5⟩
            · rw [hf0, if_pos rfl] at hand1
              rw [hs0, hf0] at hlo
              simp only [if_true, Bool.false_eq_true, if_false, Nat.add_zero] at hlo
              have HLO := hid hlo
              have HL := hid (fun w => (hlen w).mono (R' := fun e w' => e = .returned (.int .u32 ((data.length + 2 : Nat) : Int)) ∧ Below w.heap.size w w') (fun e w' ⟨h1, h2⟩ => ⟨by rw [h1, HLO.out], h2⟩))
              clear hlen hlo hs0 hf0
              go_enter Try.func4, Try.ntmps4
              go_wp2_with fail
              refine (HE.out _).mono ?_
              rintro e w1 ⟨rfl, hb1⟩
              have G1 := hid (keepB hb1 (alloc_at W _))
              have B1 := hid (below_to (below_new _) hb1)
              clear hb1
              go_wp2_with fail
              refine (HD.out _).mono ?_
              rintro e w2 ⟨rfl, hb2⟩
              have G2 := hid (alloc_old (o' := (.cells #[.int .u16 (r.src : Int), .int .u16 (r.dst : Int), .int .u32 (r.seq : Int), .int .u32 (r.ack : Int), .int .u8 (r.flags : Int), .int .u16 (r.wnd : Int), .int .u16 (r.mss : Int), .bool r.has, .int .u8 (r.scale : Int), .string (bs r.data)] 25)) (keepB hb2 G1.out))
              have B2 := hid (below_alloc (below_to B1.out hb2) (.cells #[.int .u16 (r.src : Int), .int .u16 (r.dst : Int), .int .u32 (r.seq : Int), .int .u32 (r.ack : Int), .int .u8 (r.flags : Int), .int .u16 (r.wnd : Int), .int .u16 (r.mss : Int), .bool r.has, .int .u8 (r.scale : Int), .string (bs r.data)] 25))
              obtain ⟨c0, c1, c2, c3, c4, c5, c6, c7, c8, c9⟩ := ten_cells G2.out
              clear hb2 G1 B1 G2
              go_wp2_with fail
              refine (HL.out _).mono ?_
              rintro e w3 ⟨rfl, hb3⟩
              have B3 := hid (below_to B2.out hb3)
              clear hb3 B2 c0 c1 c2 c3 c4 c5 c6 c7 c8 c9
              go_wp2_with fail
              refine (HR.out _).mono ?_
              rintro e w4 ⟨rfl, hb4⟩
              have B4 := hid (below_to B3.out hb4)
              clear hb4 B3
              go_wp2_with fail
              refine (works_any _).mono ?_
              rintro e w5 ⟨rfl, hb5⟩
              go_wp2_with fail
              go_ret
              exact ⟨rfl, below_to B4.out hb5⟩
        | inr n =>
          have hn0 := dec_err hres
          rw [hres, show told (.inr n) = .tuple #[.agg #[.int .u16 0, .int .u16 0, .int .u32 0, .int .u32 0, .int .u8 0, .int .u16 0, .int .u16 0, .bool false, .int .u8 0, .string ⟨#[]⟩], .int .i64 (n : Int)] from rfl] at hd
          have tn : ((n : Int) != 0) = true := by rw [bne_iff_ne]; omega
          have HD := hid hd
          clear hd hr hres hn0
          cases hs0 : syn flags
          · rw [hs0, if_neg (by decide)] at hand
            cases hf0 : fin flags
            · rw [hf0, if_neg (by decide)] at hand1
              rw [hs0, hf0] at hlo
              simp only [if_true, Bool.false_eq_true, if_false, Nat.add_zero] at hlo
              have HLO := hid hlo
              have HL := hid (fun w => (hlen w).mono (R' := fun e w' => e = .returned (.int .u32 ((data.length : Nat) : Int)) ∧ Below w.heap.size w w') (fun e w' ⟨h1, h2⟩ => ⟨by rw [h1, HLO.out], h2⟩))
              clear hlen hlo hs0 hf0
              go_enter Try.func4, Try.ntmps4
              go_wp2_with fail
              refine (HE.out _).mono ?_
              rintro e w1 ⟨rfl, hb1⟩
              have G1 := hid (keepB hb1 (alloc_at W _))
              have B1 := hid (below_to (below_new _) hb1)
              clear hb1
              go_wp2_with fail
              refine (HD.out _).mono ?_
              rintro e w2 ⟨rfl, hb2⟩
              have G2 := hid (alloc_old (o' := (.cells #[.int .u16 0, .int .u16 0, .int .u32 0, .int .u32 0, .int .u8 0, .int .u16 0, .int .u16 0, .bool false, .int .u8 0, .string ⟨#[]⟩] 25)) (keepB hb2 G1.out))
              have B2 := hid (below_alloc (below_to B1.out hb2) (.cells #[.int .u16 0, .int .u16 0, .int .u32 0, .int .u32 0, .int .u8 0, .int .u16 0, .int .u16 0, .bool false, .int .u8 0, .string ⟨#[]⟩] 25))
              obtain ⟨c0, c1, c2, c3, c4, c5, c6, c7, c8, c9⟩ := ten_cells G2.out
              clear hb2 G1 B1 G2
              go_wp2_with fail
              refine (HL.out _).mono ?_
              rintro e w3 ⟨rfl, hb3⟩
              have B3 := hid (below_to B2.out hb3)
              clear hb3 B2 c0 c1 c2 c3 c4 c5 c6 c7 c8 c9
              go_wp2_with fail
              have B4 := B3
              refine (works_any _).mono ?_
              rintro e w5 ⟨rfl, hb5⟩
              go_wp2_with fail
              go_ret
              exact ⟨rfl, below_to B4.out hb5⟩
            · rw [hf0, if_pos rfl] at hand1
              rw [hs0, hf0] at hlo
              simp only [if_true, Bool.false_eq_true, if_false, Nat.add_zero] at hlo
              have HLO := hid hlo
              have HL := hid (fun w => (hlen w).mono (R' := fun e w' => e = .returned (.int .u32 ((data.length + 1 : Nat) : Int)) ∧ Below w.heap.size w w') (fun e w' ⟨h1, h2⟩ => ⟨by rw [h1, HLO.out], h2⟩))
              clear hlen hlo hs0 hf0
              go_enter Try.func4, Try.ntmps4
              go_wp2_with fail
              refine (HE.out _).mono ?_
              rintro e w1 ⟨rfl, hb1⟩
              have G1 := hid (keepB hb1 (alloc_at W _))
              have B1 := hid (below_to (below_new _) hb1)
              clear hb1
              go_wp2_with fail
              refine (HD.out _).mono ?_
              rintro e w2 ⟨rfl, hb2⟩
              have G2 := hid (alloc_old (o' := (.cells #[.int .u16 0, .int .u16 0, .int .u32 0, .int .u32 0, .int .u8 0, .int .u16 0, .int .u16 0, .bool false, .int .u8 0, .string ⟨#[]⟩] 25)) (keepB hb2 G1.out))
              have B2 := hid (below_alloc (below_to B1.out hb2) (.cells #[.int .u16 0, .int .u16 0, .int .u32 0, .int .u32 0, .int .u8 0, .int .u16 0, .int .u16 0, .bool false, .int .u8 0, .string ⟨#[]⟩] 25))
              obtain ⟨c0, c1, c2, c3, c4, c5, c6, c7, c8, c9⟩ := ten_cells G2.out
              clear hb2 G1 B1 G2
              go_wp2_with fail
              refine (HL.out _).mono ?_
              rintro e w3 ⟨rfl, hb3⟩
              have B3 := hid (below_to B2.out hb3)
              clear hb3 B2 c0 c1 c2 c3 c4 c5 c6 c7 c8 c9
              go_wp2_with fail
              have B4 := B3
              refine (works_any _).mono ?_
              rintro e w5 ⟨rfl, hb5⟩
              go_wp2_with fail
              go_ret
              exact ⟨rfl, below_to B4.out hb5⟩
          · rw [hs0, if_pos rfl] at hand
            cases hf0 : fin flags
            · rw [hf0, if_neg (by decide)] at hand1
              rw [hs0, hf0] at hlo
              simp only [if_true, Bool.false_eq_true, if_false, Nat.add_zero] at hlo
              have HLO := hid hlo
              have HL := hid (fun w => (hlen w).mono (R' := fun e w' => e = .returned (.int .u32 ((data.length + 1 : Nat) : Int)) ∧ Below w.heap.size w w') (fun e w' ⟨h1, h2⟩ => ⟨by rw [h1, HLO.out], h2⟩))
              clear hlen hlo hs0 hf0
              go_enter Try.func4, Try.ntmps4
              go_wp2_with fail
              refine (HE.out _).mono ?_
              rintro e w1 ⟨rfl, hb1⟩
              have G1 := hid (keepB hb1 (alloc_at W _))
              have B1 := hid (below_to (below_new _) hb1)
              clear hb1
              go_wp2_with fail
              refine (HD.out _).mono ?_
              rintro e w2 ⟨rfl, hb2⟩
              have G2 := hid (alloc_old (o' := (.cells #[.int .u16 0, .int .u16 0, .int .u32 0, .int .u32 0, .int .u8 0, .int .u16 0, .int .u16 0, .bool false, .int .u8 0, .string ⟨#[]⟩] 25)) (keepB hb2 G1.out))
              have B2 := hid (below_alloc (below_to B1.out hb2) (.cells #[.int .u16 0, .int .u16 0, .int .u32 0, .int .u32 0, .int .u8 0, .int .u16 0, .int .u16 0, .bool false, .int .u8 0, .string ⟨#[]⟩] 25))
              obtain ⟨c0, c1, c2, c3, c4, c5, c6, c7, c8, c9⟩ := ten_cells G2.out
              clear hb2 G1 B1 G2
              go_wp2_with fail
              refine (HL.out _).mono ?_
              rintro e w3 ⟨rfl, hb3⟩
              have B3 := hid (below_to B2.out hb3)
              clear hb3 B2 c0 c1 c2 c3 c4 c5 c6 c7 c8 c9
              go_wp2_with fail
              have B4 := B3
              refine (works_any _).mono ?_
              rintro e w5 ⟨rfl, hb5⟩
              go_wp2_with fail
              go_ret
              exact ⟨rfl, below_to B4.out hb5⟩
            · rw [hf0, if_pos rfl] at hand1
              rw [hs0, hf0] at hlo
              simp only [if_true, Bool.false_eq_true, if_false, Nat.add_zero] at hlo
              have HLO := hid hlo
              have HL := hid (fun w => (hlen w).mono (R' := fun e w' => e = .returned (.int .u32 ((data.length + 2 : Nat) : Int)) ∧ Below w.heap.size w w') (fun e w' ⟨h1, h2⟩ => ⟨by rw [h1, HLO.out], h2⟩))
              clear hlen hlo hs0 hf0
              go_enter Try.func4, Try.ntmps4
              go_wp2_with fail
              refine (HE.out _).mono ?_
              rintro e w1 ⟨rfl, hb1⟩
              have G1 := hid (keepB hb1 (alloc_at W _))
              have B1 := hid (below_to (below_new _) hb1)
              clear hb1
              go_wp2_with fail
              refine (HD.out _).mono ?_
              rintro e w2 ⟨rfl, hb2⟩
              have G2 := hid (alloc_old (o' := (.cells #[.int .u16 0, .int .u16 0, .int .u32 0, .int .u32 0, .int .u8 0, .int .u16 0, .int .u16 0, .bool false, .int .u8 0, .string ⟨#[]⟩] 25)) (keepB hb2 G1.out))
              have B2 := hid (below_alloc (below_to B1.out hb2) (.cells #[.int .u16 0, .int .u16 0, .int .u32 0, .int .u32 0, .int .u8 0, .int .u16 0, .int .u16 0, .bool false, .int .u8 0, .string ⟨#[]⟩] 25))
              obtain ⟨c0, c1, c2, c3, c4, c5, c6, c7, c8, c9⟩ := ten_cells G2.out
              clear hb2 G1 B1 G2
              go_wp2_with fail
              refine (HL.out _).mono ?_
              rintro e w3 ⟨rfl, hb3⟩
              have B3 := hid (below_to B2.out hb3)
              clear hb3 B2 c0 c1 c2 c3 c4 c5 c6 c7 c8 c9
              go_wp2_with fail
              have B4 := B3
              refine (works_any _).mono ?_
              rintro e w5 ⟨rfl, hb5⟩
              go_wp2_with fail
              go_ret
              exact ⟨rfl, below_to B4.out hb5⟩
    · rw [hbad rfl] at henc
      have HE := hid henc
      clear henc hbad hlong hok hblen holen hB hf hx12 HSYN
      obtain ⟨gs, gd, seq, ack, flags, wnd, mss, has, scale, data⟩ := g
      simp only [] at h13 hdl
      have hbz : (bs data).size = data.length := rfl
      have t1 : decide ((data.length : Int) > 8192) = false := decide_eq_false (by omega)
      have t1' : decide (8192 < (data.length : Int)) = false := decide_eq_false (by omega)
      unfold sgv at HE ⊢
      simp only [] at HE ⊢
      go_enter Try.func4, Try.ntmps4
      go_wp2_with fail
      refine (HE.out _).mono ?_
      rintro e w1 ⟨rfl, hb1⟩
      have B1 := hid (below_to (below_new _) hb1)
      clear hb1
      go_wp2_with fail
      refine (works_any _).mono ?_
      rintro e w2 ⟨rfl, hb2⟩
      go_wp2_with fail
      go_ret
      exact ⟨rfl, below_to B1.out hb2⟩

end Go.Proofs.Ytidkbphdihlbaaa
