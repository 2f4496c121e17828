/- The walk of the known run of segments. -/
import Derived.Test.YtidkbphdihlbaaaSegW5
namespace Go.Proofs.Ytidkbphdihlbaaa
open Go.RowKit SG

/-- What Encode hands back, of any segment that came in. -/
theorem encode_any (g : Sg) (src dst : Nat) (W : World) (hf : g.Fits) (hsr : src < 4294967296) (hds : dst < 4294967296) :
    Calls Try.prog 7 #[.agg (sgv g), .int .u32 (src : Int), .int .u32 (dst : Int)] W fun e w' => e = .returned (encRes g src dst) ∧ Below W.heap.size W w' := by
  unfold encRes
  cases hb : g.bad
  · by_cases hl : 1460 < g.data.length
    · rw [if_neg (by decide), if_pos hl]
      exact encode_long g src dst W hf hb hl
    · rw [if_neg (by decide), if_neg hl]
      exact encode_ok g src dst W hf hb (by omega) hsr hds
  · rw [if_pos rfl]
    exact encode_bad g src dst W hf hb
def wk : Sg := ⟨5, 443, 2147483648, 0, 2, 9, 1460, true, 7, []⟩
def wk2 : Sg := ⟨0, 0, 0, 0, 16, 0, 1, false, 0, []⟩
theorem wk_fits : wk.Fits := ⟨by decide, by decide, by decide, by decide, by decide, by decide, by decide, by decide⟩
theorem wk2_fits : wk2.Fits := ⟨by decide, by decide, by decide, by decide, by decide, by decide, by decide, by decide⟩

set_option maxRecDepth 100000 in
set_option maxHeartbeats 2000000 in
theorem works_any (W : World) : Calls Try.prog 6 #[] W fun e w' => e = .returned (.bool true) ∧ Below W.heap.size W w' := by
  have hlen : (wk.bytes 1 2).length = 28 := by rw [bytes_len]; rfl
  have he1 := fun w => encode_ok wk 1 2 w wk_fits rfl (by decide) (by omega) (by omega)
  have he2 := fun w => encode_bad wk2 1 2 w wk2_fits rfl
  have hd := fun w => decode_any (wk.bytes 1 2) 1 2 w (by omega) (by omega) (by omega)
  rw [dec_bytes wk wk_fits rfl, show told (.inl wk) = .tuple #[.agg #[.int .u16 5, .int .u16 443, .int .u32 2147483648, .int .u32 0, .int .u8 2, .int .u16 9, .int .u16 1460, .bool true, .int .u8 7, .string ⟨#[]⟩], .int .i64 0] from rfl] at hd
  have hs := fun w => segsum_any (wk.bytes 1 2) 1 2 w (by omega) (by omega) (by omega)
  rw [csum_bytes] at hs
  have hl := fun w => len_any wk w (by decide) (by decide)
  rw [show ((lenOf wk : Nat) : Int) = 1 from rfl] at hl
  generalize wk.bytes 1 2 = B at *
  have HE1 := hid he1
  have HE2 := hid he2
  have HD := hid hd
  have HS := hid hs
  have HL := hid hl
  clear he1 he2 hd hs hl
  go_enter Try.func6, Try.ntmps6
  go_wp2_with fail
  refine (HE1.out _).mono ?_
  rintro e w1 ⟨rfl, hb1⟩
  have G1 := hid (keepB hb1 (alloc_at W _))
  have B1 := hid (below_to (below_new _) hb1)
  clear hb1
  go_wp2_with fail
  refine (HD.out _).mono ?_
  rintro e w2 ⟨rfl, hb2⟩
  have G2 := hid (alloc_old (o' := .cells #[.int .u16 5, .int .u16 443, .int .u32 2147483648, .int .u32 0, .int .u8 2, .int .u16 9, .int .u16 1460, .bool true, .int .u8 7, .string ⟨#[]⟩] 25) (keepB hb2 G1.out))
  have X2 := hid (alloc_at w2 (.cells #[.int .u16 5, .int .u16 443, .int .u32 2147483648, .int .u32 0, .int .u8 2, .int .u16 9, .int .u16 1460, .bool true, .int .u8 7, .string ⟨#[]⟩] 25))
  have B2 := hid (below_alloc (below_to B1.out hb2) (.cells #[.int .u16 5, .int .u16 443, .int .u32 2147483648, .int .u32 0, .int .u8 2, .int .u16 9, .int .u16 1460, .bool true, .int .u8 7, .string ⟨#[]⟩] 25))
  clear hb2 G1 B1
  go_wp2_with fail
  refine (HE2.out _).mono ?_
  rintro e w3 ⟨rfl, hb3⟩
  have G3 := keepB hb3 G2.out
  have X3 := keepB hb3 X2.out
  have B3 := hid (below_to B2.out hb3)
  obtain ⟨c0, c1, c2, c3, c4, c5, c6, c7, c8, c9⟩ := ten_cells G3
  obtain ⟨d0, d1, d2, d3, d4, d5, d6, d7, d8, d9⟩ := ten_cells X3
  have G3' := hid G3
  clear hb3 G2 X2 B2 G3 X3
  have hbz : (bs B).size = 28 := hlen
  go_wp2_with fail
  refine (HL.out _).mono ?_
  rintro e w4 ⟨rfl, hb4⟩
  have B4 := hid (below_to B3.out hb4)
  clear hb4 G3' B3 c0 c1 c2 c3 c4 c5 c6 c7 c8 c9 d0 d1 d2 d3 d4 d5 d6 d7 d8 d9
  go_wp2_with fail
  refine (HS.out _).mono ?_
  rintro e w5 ⟨rfl, hb5⟩
  have B5 := hid (below_to B4.out hb5)
  clear hb5 B4
  go_wp2_with fail
  go_ret
  exact ⟨rfl, B5.out⟩

end Go.Proofs.Ytidkbphdihlbaaa
