/- The walk of the law SegBack. -/
import Derived.Test.YtidkbphdihlbaaaSegL1
namespace Go.Proofs.Ytidkbphdihlbaaa
open Go.RowKit SG

theorem dec_err {l : List UInt8} {src dst n : Nat} (h : dec l src dst = .inr n) : n ≠ 0 := by
  unfold dec at h
  split at h
  · cases h; decide
  · split at h
    · cases h; decide
    · split at h
      · cases h; decide
      · split at h
        · cases h; decide
        · cases h

theorem bs_data (l : List UInt8) : (bs l).data.toList = l := by simp [bs]
set_option maxRecDepth 100000 in
set_option maxHeartbeats 4000000 in
theorem back_any (g : Sg) (src dst at_ by_ : Nat) (W : World) (hf : g.Fits) (hsr : src < 4294967296) (hds : dst < 4294967296) (hat : at_ < 65536) (hby : by_ < 256) (hdl : g.data.length ≤ maxLen) :
    Calls Try.prog 3 #[.agg (sgv g), .int .u32 (src : Int), .int .u32 (dst : Int), .int .u16 (at_ : Int), .int .u8 (by_ : Int)] W fun e w' => e = .returned (.bool true) ∧ Below W.heap.size W w' := by
  have henc := fun w => encode_any g src dst w hf hsr hds
  have hbad : g.bad = true → encRes g src dst = .tuple #[.string ⟨#[]⟩, .int .i64 2] := fun h => by unfold encRes; rw [if_pos h]
  have hlong : g.bad = false → 1460 < g.data.length → encRes g src dst = .tuple #[.string ⟨#[]⟩, .int .i64 4] := fun h h2 => by unfold encRes; rw [h, if_neg (by decide), if_pos h2]
  have hok : g.bad = false → ¬ 1460 < g.data.length → encRes g src dst = .tuple #[.string (bs (g.bytes src dst)), .int .i64 0] := fun h h2 => by unfold encRes; rw [h, if_neg (by decide), if_neg h2]
  have hdec := dec_bytes g hf
  have hsum := csum_bytes g src dst
  have hblen := bytes_len g src dst
  have holen := opts_len g
  generalize hB : g.bytes src dst = B at *
  obtain ⟨bad, hbd⟩ : ∃ b, g.bad = b := ⟨_, rfl⟩
  rw [hbd] at hbad hlong hok hdec
  generalize encRes g src dst = er at *
  have HDEC := hid hdec
  have htold := hid (show told (.inl g) = .tuple #[.agg (sgv g), .int .i64 0] from rfl)
  unfold maxLen at hdl
  have HG := hid (show g = g from rfl)
  by_cases h13 : 8192 < g.data.length
  · have t1 : decide ((g.data.length : Int) > 8192) = true := decide_eq_true (by omega)
    have t1' : decide (8192 < (g.data.length : Int)) = true := decide_eq_true (by omega)
    have hbz : (bs g.data).size = g.data.length := rfl
    clear henc hbad hlong hok hdec hsum hblen holen HDEC htold HG hB hf
    obtain ⟨gs, gd, seq, ack, flags, wnd, mss, has, scale, data⟩ := g
    unfold sgv
    simp only [] at t1 t1' h13 hbz hdl ⊢
    go_enter Try.func3, Try.ntmps3
    go_wp2_with fail
    refine (works_any _).mono ?_
    rintro e w1 ⟨rfl, hb1⟩
    go_wp2_with fail
    go_ret
    exact ⟨rfl, below_to (below_new _) hb1⟩
  · cases bad
    · by_cases hl : 1460 < g.data.length
      · rw [hlong rfl hl] at henc
        clear hl
        have HE := hid henc
        clear henc hbad hlong hok hdec hsum hblen holen HDEC htold HG hB hf
        obtain ⟨gs, gd, seq, ack, flags, wnd, mss, has, scale, data⟩ := g
        simp only [] at h13 hdl
        have hbz : (bs data).size = data.length := rfl
        have t1 : decide ((data.length : Int) > 8192) = false := decide_eq_false (by omega)
        have t1' : decide (8192 < (data.length : Int)) = false := decide_eq_false (by omega)
        unfold sgv at HE ⊢
        simp only [] at HE ⊢
        go_enter Try.func3, Try.ntmps3
        go_wp2_with fail
        refine (HE.out _).mono ?_
        rintro e w1 ⟨rfl, hb1⟩
        have B1 := hid (below_to (below_new _) hb1)
        clear hb1
        go_wp2_with fail
        refine (works_any _).mono ?_
        rintro e w2 ⟨rfl, hb2⟩
        go_wp2_with fail
        go_ret
        exact ⟨rfl, below_to B1.out hb2⟩
      · rw [hok rfl hl] at henc
        have HE := hid henc
        have hd1 := fun w => decode_any B src dst w (by omega) hsr hds
        rw [← hB, HDEC.out rfl src dst, htold.out, hB] at hd1
        have HD := hid hd1
        clear hd1 henc hbad hlong hok hdec hB
        obtain ⟨gs, gd, seq, ack, flags, wnd, mss, has, scale, data⟩ := g
        simp only [] at h13 hl hblen holen hdl
        have hbz : (bs data).size = data.length := rfl
        have t1 : decide ((data.length : Int) > 8192) = false := decide_eq_false (by omega)
        have t1' : decide (8192 < (data.length : Int)) = false := decide_eq_false (by omega)
        have hbB : (bs B).size = B.length := rfl
        have hB20 : 20 ≤ B.length := by omega
        have hBl : B.length ≤ 2000 := by omega
        have t2 : decide ((B.length : Int) < 20) = false := decide_eq_false (by omega)
        clear hblen holen hl
        unfold sgv at HE HD ⊢
        simp only [] at HE HD ⊢
        go_enter Try.func3, Try.ntmps3
        go_wp2_with fail
        refine (HE.out _).mono ?_
        rintro e w1 ⟨rfl, hb1⟩
        have G1 := hid (keepB hb1 (alloc_at W _))
        have B1 := hid (below_to (below_new _) hb1)
        clear hb1
        go_wp2_with fail
        refine (HD.out _).mono ?_
        rintro e w2 ⟨rfl, hb2⟩
        have G2 := alloc_old (o' := .cells #[.int .u16 (gs : Int), .int .u16 (gd : Int), .int .u32 (seq : Int), .int .u32 (ack : Int), .int .u8 (flags : Int), .int .u16 (wnd : Int), .int .u16 (mss : Int), .bool has, .int .u8 (scale : Int), .string (bs data)] 25) (keepB hb2 G1.out)
        have X2 := alloc_at w2 (.cells #[.int .u16 (gs : Int), .int .u16 (gd : Int), .int .u32 (seq : Int), .int .u32 (ack : Int), .int .u8 (flags : Int), .int .u16 (wnd : Int), .int .u16 (mss : Int), .bool has, .int .u8 (scale : Int), .string (bs data)] 25)
        have B2 := hid (below_alloc (below_to B1.out hb2) (.cells #[.int .u16 (gs : Int), .int .u16 (gd : Int), .int .u32 (seq : Int), .int .u32 (ack : Int), .int .u8 (flags : Int), .int .u16 (wnd : Int), .int .u16 (mss : Int), .bool has, .int .u8 (scale : Int), .string (bs data)] 25))
        obtain ⟨c0, c1, c2, c3, c4, c5, c6, c7, c8, c9⟩ := ten_cells G2
        obtain ⟨d0, d1, d2, d3, d4, d5, d6, d7, d8, d9⟩ := ten_cells X2
        clear hb2 G1 B1 G2 X2
        go_wp2_with fail
        generalize hw3 : w2.alloc (.cells #[.int .u16 (gs : Int), .int .u16 (gd : Int), .int .u32 (seq : Int), .int .u32 (ack : Int), .int .u8 (flags : Int), .int .u16 (wnd : Int), .int .u16 (mss : Int), .bool has, .int .u8 (scale : Int), .string (bs data)] 25) = w3 at *
        have LB := laid_bytes w3 (bs B)
        rw [show (bs B).data.toList = B from bs_data B] at LB
        have hsz3 : w3.heap.size = w2.heap.size + 1 := by rw [← hw3]; simp
        rw [hsz3] at LB
        have BB := hid (below_to B2.out (bytesWorld_below w3 5 (bs B)))
        obtain ⟨m, hm⟩ : ∃ m, at_ % B.length = m := ⟨_, rfl⟩
        have hm1 : m < B.length := by rw [← hm]; exact Nat.mod_lt _ (by omega)
        have hmm : (at_ : Int) % (B.length : Int) = (m : Int) := by rw [← hm]; exact (Int.natCast_emod ..).symm
        have hne : ¬ B.length = 0 := by omega
        have m0 : 0 ≤ (m : Int) := by omega
        have m1 : (m : Int) < (B.length : Int) := by omega
        have cm := LB.cell hm1
        have fm := LB.free hm1
        obtain ⟨c, hc⟩ : ∃ c, B.getD m 0 = c := ⟨_, rfl⟩
        rw [hc] at cm
        have hxl : c.toNat ^^^ by_ < 256 := Nat.xor_lt_two_pow (n := 8) c.toNat_lt hby
        obtain ⟨d, hd⟩ : ∃ d, UInt8.ofNat (c.toNat ^^^ by_) = d := ⟨_, rfl⟩
        have hdn : d.toNat = c.toNat ^^^ by_ := by rw [← hd, UInt8.toNat_ofNat', Nat.mod_eq_of_lt hxl]
        have hx : bits .xor .u8 (c.toNat : Int) (by_ : Int) = (d.toNat : Int) := by rw [u8_xor_nat _ _ c.toNat_lt hby, hdn]
        have hw16 : IntKind.i64.wrap (at_ : Int) = (at_ : Int) := IntWalk.i64_in _ (by omega)
        have LBH := hid LB
        have HC := hid hc
        have HD2 := hid hdn
        have HW3 := hid hw3
        clear LB hc hd hdn hw3 c0 c1 c2 c3 c4 c5 c6 c7 c8 c9 d0 d1 d2 d3 d4 d5 d6 d7 d8 d9 hxl hm
        have hsz4 := hid hsz3
        clear hsz3
        go_region
        have LB4 : Laid ((Lib.bytesWorld w3 5 (bs B)).setCell ⟨w2.heap.size + 1, m, none⟩ (.int .u8 (d.toNat : Int))).drew (w2.heap.size + 1) (B.set m d) := ⟨(Laid.set LBH.out m d).ex⟩
        have B4 := hid ((BB.out.setCell (p := ⟨w2.heap.size + 1, m, none⟩) (by have := B2.out.size; have := hsz4.out; show W.heap.size ≤ w2.heap.size + 1; omega) (.int .u8 (d.toNat : Int))).drew)
        generalize ((Lib.bytesWorld w3 5 (bs B)).setCell ⟨w2.heap.size + 1, m, none⟩ (.int .u8 (d.toNat : Int))).drew = w4 at *
        have hsl : (B.set m d).length = B.length := List.length_set
        have hcv := conv_string w4 (w2.heap.size + 1) 0 B.length (grownCap w3 B.length 0 5) (B.set m d) hsl (fun j hj => by rw [Nat.zero_add]; exact LB4.cell (by rw [hsl]; exact hj))
        rw [show (⟨(B.set m d).toArray⟩ : ByteArray) = bs (B.set m d) from rfl] at hcv
        have hd2 := fun w => decode_any (B.set m d) src dst w (by rw [hsl]; omega) hsr hds
        have hturn := csum_turned B m d src dst hm1 hsum
        rw [HC.out] at hturn
        clear LB4 cm fm hx LBH BB B2 hne hmm m0 m1 HW3
        by_cases hb0 : by_ = 0
        · have hdc : d = c := UInt8.toNat_inj.1 (by rw [HD2.out, hb0, Nat.xor_zero])
          have hsame : B.set m d = B := by
            rw [hdc, ← HC.out]
            apply List.ext_getElem
            · simp
            · intro j h1 h2
              rw [List.getElem_set]
              split
              · rename_i e; subst e; simp [h2]
              · rfl
          have tby : ((by_ : Int) != 0) = false := by rw [bne_eq_false_iff_eq]; omega
          rw [hsame] at hcv
          clear hd2 hturn hsame hdc hsl HD2 HC hm1 hb0
          go_wp2_with fail
          refine (HD.out _).mono ?_
          rintro e w5 ⟨rfl, hb5⟩
          have B5 := hid (below_to B4.out hb5)
          clear hb5 B4
          go_wp2_with fail
          refine (works_any _).mono ?_
          rintro e w6 ⟨rfl, hb6⟩
          go_wp2_with fail
          go_ret
          exact ⟨rfl, below_to (below_alloc B5.out _) hb6⟩
        · have hdc : d ≠ c := fun e => hb0 (by
            have h := HD2.out
            rw [e] at h
            have h2 : c.toNat ^^^ (c.toNat ^^^ by_) = c.toNat ^^^ c.toNat := by rw [← h]
            rw [← Nat.xor_assoc, Nat.xor_self, Nat.zero_xor] at h2
            exact h2)
          have tby : ((by_ : Int) != 0) = true := by rw [bne_iff_ne]; omega
          obtain ⟨n, hn⟩ : ∃ n, dec (B.set m d) src dst = .inr n := by
            cases hr : dec (B.set m d) src dst with
            | inl g' => exact absurd (dec_sum hr) (hturn hdc)
            | inr n => exact ⟨n, rfl⟩
          have hn0 := dec_err hn
          rw [hn, show told (.inr n) = .tuple #[.agg #[.int .u16 0, .int .u16 0, .int .u32 0, .int .u32 0, .int .u8 0, .int .u16 0, .int .u16 0, .bool false, .int .u8 0, .string ⟨#[]⟩], .int .i64 (n : Int)] from rfl] at hd2
          have tn : ((n : Int) != 0) = true := by rw [bne_iff_ne]; omega
          generalize B.set m d = B' at *
          have HD3 := hid hd2
          clear hd2 hturn hdc hsl HD2 HC hm1 hb0 hn hn0
          go_wp2_with fail
          refine (HD3.out _).mono ?_
          rintro e w5 ⟨rfl, hb5⟩
          have B5 := hid (below_to B4.out hb5)
          clear hb5 B4
          go_wp2_with fail
          refine (works_any _).mono ?_
          rintro e w6 ⟨rfl, hb6⟩
          go_wp2_with fail
          go_ret
          exact ⟨rfl, below_to (below_alloc B5.out _) hb6⟩
    · rw [hbad rfl] at henc
      have HE := hid henc
      clear henc hbad hlong hok hdec hsum hblen holen HDEC htold HG hB hf
      obtain ⟨gs, gd, seq, ack, flags, wnd, mss, has, scale, data⟩ := g
      simp only [] at h13 hdl
      have hbz : (bs data).size = data.length := rfl
      have t1 : decide ((data.length : Int) > 8192) = false := decide_eq_false (by omega)
      have t1' : decide (8192 < (data.length : Int)) = false := decide_eq_false (by omega)
      unfold sgv at HE ⊢
      simp only [] at HE ⊢
      go_enter Try.func3, Try.ntmps3
      go_wp2_with fail
      refine (HE.out _).mono ?_
      rintro e w1 ⟨rfl, hb1⟩
      have B1 := hid (below_to (below_new _) hb1)
      clear hb1
      go_wp2_with fail
      refine (works_any _).mono ?_
      rintro e w2 ⟨rfl, hb2⟩
      go_wp2_with fail
      go_ret
      exact ⟨rfl, below_to B1.out hb2⟩

end Go.Proofs.Ytidkbphdihlbaaa
