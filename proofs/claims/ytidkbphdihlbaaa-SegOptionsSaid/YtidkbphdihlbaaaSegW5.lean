/- The walk of a segment's writing, where it is written. -/
import Derived.Test.YtidkbphdihlbaaaSegW4
import Derived.Test.YtidkbphdihlbaaaGHO
namespace Go.Proofs.Ytidkbphdihlbaaa
open Go.RowKit SG

attribute [local go_sem] be_length List.length_append
@[go_sem] theorem lit_append2 (x y : UInt8) (l : List UInt8) : (⟨#[x, y]⟩ : ByteArray) ++ bs l = bs ([x, y] ++ l) := by rw [← bs_append]; rfl
@[go_sem] theorem lit_append3 (x y z : UInt8) (l : List UInt8) : (⟨#[x, y, z]⟩ : ByteArray) ++ bs l = bs ([x, y, z] ++ l) := by rw [← bs_append]; rfl
@[go_sem] theorem append_lit2 (x y : UInt8) (l : List UInt8) : bs l ++ (⟨#[x, y]⟩ : ByteArray) = bs (l ++ [x, y]) := by rw [← bs_append]; rfl
@[go_sem] theorem nil_append (l : List UInt8) : (⟨#[]⟩ : ByteArray) ++ bs l = bs l := by
  have h := bs_append [] l
  rwa [List.nil_append] at h
@[go_sem] theorem append_nil2 (x y : UInt8) : (⟨#[x, y]⟩ : ByteArray) ++ (⟨#[]⟩ : ByteArray) = bs [x, y] := by
  have h := bs_append [x, y] []
  rwa [List.append_nil] at h
theorem csum_lt (l : List UInt8) (src dst : Nat) : csum l src dst < 65536 := by unfold csum; omega
theorem conv_one (c : Nat) (hc : c < 256) (w : World) : (convert 32 9 (.slice (some ⟨w.heap.size, 0, none⟩) 1 1)).run Try.prog (w.alloc (.cells #[.int .u8 (c : Int)] 5)) = .ok (.string (bs [UInt8.ofNat c])) (w.alloc (.cells #[.int .u8 (c : Int)] 5)) :=
  conv_string _ w.heap.size 0 1 1 [UInt8.ofNat c] rfl (fun j hj => by
    obtain rfl : j = 0 := by omega
    rw [Nat.zero_add, cell_at (alloc_at _ _)]
    show some (Value.int .u8 (c : Int)) = some (Value.int .u8 (((UInt8.ofNat c).toNat : Nat) : Int))
    rw [UInt8.toNat_ofNat', Nat.mod_eq_of_lt hc])

theorem keepcell {w w' : World} {p : Addr} {v : Value} (hb : Below w.heap.size w w') (h : w.cell? p = some v) : w'.cell? p = some v := (hb.cell (p := p) (World.block_lt_of_cell? w p h)).trans h
theorem conv_two (c d : Nat) (hc : c < 256) (hd : d < 256) (w : World) (b : Nat) (h0 : w.cell? ⟨b, 0, none⟩ = some (.int .u8 (c : Int))) (h1 : w.cell? ⟨b, 1, none⟩ = some (.int .u8 (d : Int))) :
    (convert 32 9 (.slice (some ⟨b, 0, none⟩) 2 2)).run Try.prog w = .ok (.string (bs [UInt8.ofNat c, UInt8.ofNat d])) w :=
  conv_string w b 0 2 2 [UInt8.ofNat c, UInt8.ofNat d] rfl (fun j hj => by
    rw [Nat.zero_add]
    match j, hj with
    | 0, _ => rw [h0]; show _ = some (Value.int .u8 (((UInt8.ofNat c).toNat : Nat) : Int)); rw [UInt8.toNat_ofNat', Nat.mod_eq_of_lt hc]
    | 1, _ => rw [h1]; show _ = some (Value.int .u8 (((UInt8.ofNat d).toNat : Nat) : Int)); rw [UInt8.toNat_ofNat', Nat.mod_eq_of_lt hd])
theorem or_pair (a b : Nat) (ha : a < 65536) (hb : b < 65536) : bits .or .u64 ((a : Int) * 65536) (b : Int) = ((a * 65536 + b : Nat) : Int) := by
  have e : ((a : Int) * 65536) = ((a * 65536 : Nat) : Int) := rfl
  rw [e, u64_or_nat _ _ (by omega) (by omega)]
  congr 1
  rw [show a * 65536 = 2 ^ 16 * a by omega, ← Nat.two_pow_add_eq_or_of_lt (by omega : b < 2 ^ 16)]
theorem or_addr' (a b : Nat) (ha : a < 4294967296) (hb : b < 4294967296) : bits .or .u64 ((a : Int) * 4294967296) (b : Int) = ((a * 4294967296 + b : Nat) : Int) := by
  have h := or_addr a b ha hb
  rwa [show IntKind.u64.wrap ((a : Int) * 4294967296) = (a : Int) * 4294967296 from IntWalk.u64_in _ (by omega)] at h

theorem bytes_form (g : Sg) (src dst nA nB : Nat) (O : List UInt8) (h0 : g.opts = O) (b : UInt8) (hb : UInt8.ofNat ((20 + O.length) * 4) = b) (c : Nat) (hA : g.src * 65536 + g.dst = nA) (hB : g.seq * 4294967296 + g.ack = nB)
    (hc : csum (be 4 nA ++ (be 8 nB ++ b :: UInt8.ofNat g.flags :: (be 2 g.wnd ++ 0 :: 0 :: 0 :: 0 :: (O ++ g.data)))) src dst = c) :
    g.bytes src dst = be 4 nA ++ (be 8 nB ++ b :: UInt8.ofNat g.flags :: (be 2 g.wnd ++ (be 2 c ++ 0 :: 0 :: (O ++ g.data)))) := by
  have hh : g.headA = be 4 nA ++ be 8 nB ++ [b, UInt8.ofNat g.flags] ++ be 2 g.wnd := by
    unfold Sg.headA; rw [hA, hB, h0, hb]
  have ht : g.tail = [0, 0] ++ O ++ g.data := by unfold Sg.tail; rw [h0]
  have hl : be 4 nA ++ be 8 nB ++ [b, UInt8.ofNat g.flags] ++ be 2 g.wnd ++ [0, 0] ++ ([0, 0] ++ O ++ g.data) = be 4 nA ++ (be 8 nB ++ b :: UInt8.ofNat g.flags :: (be 2 g.wnd ++ 0 :: 0 :: 0 :: 0 :: (O ++ g.data))) := by simp
  unfold Sg.bytes
  rw [hh, ht, hl, hc]
  simp

set_option maxRecDepth 100000 in
set_option maxHeartbeats 8000000 in
theorem encode_ok (g : Sg) (src dst : Nat) (W : World) (hf : g.Fits) (hb : g.bad = false) (hl : g.data.length ≤ 1460) (hsr : src < 4294967296) (hds : dst < 4294967296) :
    Calls Try.prog 7 #[.agg (sgv g), .int .u32 (src : Int), .int .u32 (dst : Int)] W fun e w' => e = .returned (.tuple #[.string (bs (g.bytes src dst)), .int .i64 0]) ∧ Below W.heap.size W w' := by
  have hand := and_syn g.flags hf.flags
  have hmss := hf.mss
  have hsc := hf.scale
  obtain ⟨gs, gd, seq, ack, flags, wnd, mss, has, scale, data⟩ := g
  simp only [Sg.bad, Sg.extra] at hb hand hl hmss hsc
  unfold sgv
  simp only []
  have hbz : (bs data).size = data.length := rfl
  have tl : decide ((data.length : Int) > 1460) = false := decide_eq_false (by omega)
  have tl' : decide (1460 < (data.length : Int)) = false := decide_eq_false (by omega)
  have h14 : ¬ 14 < scale := fun h => by simp [h] at hb
  have t14 : decide ((scale : Int) > 14) = false := decide_eq_false (by omega)
  have t14' : decide (14 < (scale : Int)) = false := decide_eq_false (by omega)
  have hsy : mss ≠ 0 ∨ has = true → syn flags = true := fun h => by
    cases hs : syn flags
    · rcases h with h | h
      · simp [hs, h] at hb
      · simp [hs, h] at hb
    · rfl
  have hz : has = false → scale = 0 := fun h => by simp [h] at hb; omega
  have q1 := hf.src
  have q2 := hf.dst
  have q3 := hf.seq
  have q4 := hf.ack
  have q5 := hf.flags
  have q6 := hf.wnd
  simp only [] at q1 q2 q3 q4 q5 q6
  have or1 := or_pair gs gd q1 q2
  have or2 := or_addr' seq ack q3 q4
  have ww1 : IntKind.u64.wrap (gs : Int) = (gs : Int) := IntWalk.u64_in _ (by omega)
  have ww2 : IntKind.u64.wrap (gd : Int) = (gd : Int) := IntWalk.u64_in _ (by omega)
  have ww3 : IntKind.u64.wrap (seq : Int) = (seq : Int) := IntWalk.u64_in _ (by omega)
  have ww4 : IntKind.u64.wrap (ack : Int) = (ack : Int) := IntWalk.u64_in _ (by omega)
  have ww5 : IntKind.u64.wrap (wnd : Int) = (wnd : Int) := IntWalk.u64_in _ (by omega)
  have N4 := hid (fun w => number_4 (gs * 65536 + gd) w (by omega))
  have N8 := hid (fun w => number_8 (seq * 4294967296 + ack) w (by omega))
  have N2 := hid (fun w => number_2 wnd w (by omega))
  obtain ⟨nA, hnA⟩ : ∃ n, gs * 65536 + gd = n := ⟨_, rfl⟩
  obtain ⟨nB, hnB⟩ : ∃ n, seq * 4294967296 + ack = n := ⟨_, rfl⟩
  rw [hnA] at or1 N4
  rw [hnB] at or2 N8
  have HNA := hid hnA
  have HNB := hid hnB
  clear hnA hnB
  by_cases hm : mss = 0
  · have tm : ((mss : Int) != 0) = false := by rw [bne_eq_false_iff_eq]; omega
    cases has
    · have ts : ((scale : Int) != 0) = false := by rw [bne_eq_false_iff_eq]; have := hz rfl; omega
      go_enter Try.func7, Try.ntmps7
      go_wp2_with fail
      have GW := hid (alloc_at W (.cells #[.int .u16 (gs : Int), .int .u16 (gd : Int), .int .u32 (seq : Int), .int .u32 (ack : Int), .int .u8 (flags : Int), .int .u16 (wnd : Int), .int .u16 0, .bool false, .int .u8 0, .string (bs data)] 25))
      have BW := hid (below_new (w := W) (.cells #[.int .u16 (gs : Int), .int .u16 (gd : Int), .int .u32 (seq : Int), .int .u32 (ack : Int), .int .u8 (flags : Int), .int .u16 (wnd : Int), .int .u16 0, .bool false, .int .u8 0, .string (bs data)] 25))
      generalize W.alloc (.cells #[.int .u16 (gs : Int), .int .u16 (gd : Int), .int .u32 (seq : Int), .int .u32 (ack : Int), .int .u8 (flags : Int), .int .u16 (wnd : Int), .int .u16 0, .bool false, .int .u8 0, .string (bs data)] 25) = w0 at *
      have HM := hid hm
      obtain ⟨c0, c1, c2, c3, c4, c5, c6, c7, c8, c9⟩ := ten_cells GW.out
      have lc0 := later_cell c0
      have lc1 := later_cell c1
      have lc2 := later_cell c2
      have lc3 := later_cell c3
      refine wp_region_later (by kernel_rfl) (by kernel_rfl) ?_
      repeat ((go_big_quiet_step ((first | (go_at_call 12; with_reducible exact calls_later (N4.out _)) | (go_at_call 12; with_reducible exact calls_later (N8.out _))))))
      refine wpQuiet_nil ?_
      intro wL hwL
      obtain ⟨⟨w8, hL⟩, e8⟩ := hwL
      change wL = w8 at e8
      subst e8
      have GL := hid (keepB hL GW.out)
      have BL := hid (below_to BW.out hL)
      clear lc0 lc1 lc2 lc3 c0 c1 c2 c3 c4 c5 c6 c7 c8 c9 hL GW BW
      obtain ⟨c0, c1, c2, c3, c4, c5, c6, c7, c8, c9⟩ := ten_cells GL.out
      go_wp2_with fail
      have hwr : IntKind.u8.wrap (IntKind.u8.wrap (IntKind.i64.wrap 20) * 4) = 80 := rfl
      have lc4 := later_cell c4
      have lc5 := later_cell c5
      refine wp_region_gho [8] (fun _ u w => ∃ b, u = .slice (some ⟨b, 0, none⟩) 2 2 ∧ w.heap[b]? = some (.cells #[.int .u8 80, .int .u8 (flags : Int)] 5 (0, 0))) (by kernel_rfl) (by kernel_rfl) (by kernel_rfl) (fun _ u w w' ⟨b, h1, h2⟩ hb => ⟨b, h1, keepB hb h2⟩) ?_
      repeat (first | (refine wpGho_plain (by kernel_rfl) (by decide) (by rfl) (by rfl) (fun K hK => ?_); go_simp; refine hK _ ?_; clear hK K; try go_ints) | (refine wpGho_plain (by kernel_rfl) (by decide) (by rfl) (by rfl) (fun K hK => ?_); go_simp; refine ⟨_, fun x => (N2.out _), hK _ ?_⟩; clear hK K; try go_ints))
      refine wpGho_make (by kernel_rfl) (by decide) (by rfl) (by rfl) (by rfl) (fun K hK => ?_)
      go_simp
      refine ⟨fun x => ⟨below_new _, _, rfl, alloc_at _ _⟩, hK _ ?_⟩
      clear hK K
      refine wpGho_read (by decide) (by rfl) (fun K hK => ?_)
      refine ⟨.string (bs [UInt8.ofNat 80, UInt8.ofNat flags]), fun g x hR => ?_, hK _ ?_⟩
      · obtain ⟨b, hb, hc⟩ := hR 8 (by decide) (by kernel_rfl)
        rw [show ∀ a, over _ [8] g a = Act.put a (some 89) (g 8) from fun _ => rfl, hb]
        have cv := conv_two 80 flags (by decide) q5 x.w' b (cell_at hc 0) (cell_at hc 1)
        clear lc4 lc5 hR
        go_simp
        done
      clear hK K
      simp only [Act.put, List.setIfInBounds_toArray, List.set_cons_zero, List.set_cons_succ]
      repeat (first | (refine wpGho_plain (by kernel_rfl) (by decide) (by rfl) (by rfl) (fun K hK => ?_); go_simp; refine hK _ ?_; clear hK K; try go_ints) | (refine wpGho_plain (by kernel_rfl) (by decide) (by rfl) (by rfl) (fun K hK => ?_); go_simp; refine ⟨_, fun x => (N2.out _), hK _ ?_⟩; clear hK K; try go_ints))
      refine wpGho_nil ?_
      intro g wM hwM hR
      obtain ⟨⟨w8, hM⟩, e8⟩ := hwM
      change wM = w8 at e8
      subst e8
      obtain ⟨b8, hb8, hc8⟩ := hR 8 (by decide)
      rw [show ∀ a, over _ [8] g a = Act.put a (some 89) (g 8) from fun _ => rfl, hb8]
      simp only [Act.put, List.setIfInBounds_toArray, List.set_cons_zero, List.set_cons_succ]
      have GM := hid (keepB hM GL.out)
      have BM := hid (below_to BL.out hM)
      clear lc4 lc5 c0 c1 c2 c3 c4 c5 c6 c7 c8 c9 hM GL BL hb8 hc8 hR hwr
      obtain ⟨c0, c1, c2, c3, c4, c5, c6, c7, c8, c9⟩ := ten_cells GM.out
      go_wp2_with fail
      have hsum := segsum_any (be 4 nA ++ (be 8 nB ++ 80 :: UInt8.ofNat flags :: (be 2 wnd ++ 0 :: 0 :: 0 :: 0 :: (data)))) src dst wM (by simp only [List.length_append, List.length_cons, List.length_nil, be_length]; omega) hsr hds
      have hclt := csum_lt (be 4 nA ++ (be 8 nB ++ 80 :: UInt8.ofNat flags :: (be 2 wnd ++ 0 :: 0 :: 0 :: 0 :: (data)))) src dst
      obtain ⟨c, hc⟩ : ∃ c, csum (be 4 nA ++ (be 8 nB ++ 80 :: UInt8.ofNat flags :: (be 2 wnd ++ 0 :: 0 :: 0 :: 0 :: (data)))) src dst = c := ⟨_, rfl⟩
      rw [hc] at hsum hclt
      have HC := hid hc
      clear hc
      refine hsum.mono ?_
      rintro e w10 ⟨rfl, hb10⟩
      have B10 := hid (below_to BM.out hb10)
      have hwc : IntKind.u64.wrap (c : Int) = (c : Int) := IntWalk.u64_in _ (by omega)
      clear hsum hb10 GM BM c0 c1 c2 c3 c4 c5 c6 c7 c8 c9
      go_wp2_with fail
      refine (number_2 c _ (by omega)).mono ?_
      rintro e w11 ⟨rfl, hb11⟩
      have B11 := hid (below_to B10.out hb11)
      clear hb11 B10
      go_wp2_with fail
      refine bodyPost_ret (v := .tuple #[.string (bs (be 4 nA ++ (be 8 nB ++ 80 :: UInt8.ofNat flags :: (be 2 wnd ++ (be 2 c ++ 0 :: 0 :: (data)))))), .int .i64 0]) (by simp [results, Try.results7, go_sem]) rfl ⟨?_, B11.out⟩
      have HB := bytes_form ⟨gs, gd, seq, ack, flags, wnd, mss, false, scale, data⟩ src dst nA nB ([]) (by have hm := HM.out; simp [Sg.opts, hm]) 80 rfl c HNA.out HNB.out (by have h := HC.out; simpa using h)
      rw [HB]
      simp
    · rw [hsy (.inr rfl), if_pos rfl] at hand
      have HM := hid hm
      have cv1 := conv_one scale hsc (W.alloc (.cells #[.int .u16 (gs : Int), .int .u16 (gd : Int), .int .u32 (seq : Int), .int .u32 (ack : Int), .int .u8 (flags : Int), .int .u16 (wnd : Int), .int .u16 (mss : Int), .bool true, .int .u8 (scale : Int), .string (bs data)] 25))
      rw [show (W.alloc (.cells #[.int .u16 (gs : Int), .int .u16 (gd : Int), .int .u32 (seq : Int), .int .u32 (ack : Int), .int .u8 (flags : Int), .int .u16 (wnd : Int), .int .u16 (mss : Int), .bool true, .int .u8 (scale : Int), .string (bs data)] 25)).heap.size = W.heap.size + 1 from by simp] at cv1
      clear hz hsy hb hm
      by_cases hs0 : scale = 0
      · have ts : ((scale : Int) != 0) = false := by rw [bne_eq_false_iff_eq]; omega
        clear hs0
        go_enter Try.func7, Try.ntmps7
        go_wp2_with fail
        have GW := hid (alloc_old (o' := .cells #[.int .u8 (scale : Int)] 5) (alloc_at W (.cells #[.int .u16 (gs : Int), .int .u16 (gd : Int), .int .u32 (seq : Int), .int .u32 (ack : Int), .int .u8 (flags : Int), .int .u16 (wnd : Int), .int .u16 (mss : Int), .bool true, .int .u8 (scale : Int), .string (bs data)] 25)))
        have BW := hid (below_alloc (below_new (w := W) (.cells #[.int .u16 (gs : Int), .int .u16 (gd : Int), .int .u32 (seq : Int), .int .u32 (ack : Int), .int .u8 (flags : Int), .int .u16 (wnd : Int), .int .u16 (mss : Int), .bool true, .int .u8 (scale : Int), .string (bs data)] 25)) (.cells #[.int .u8 (scale : Int)] 5))
        clear cv1
        generalize (W.alloc (.cells #[.int .u16 (gs : Int), .int .u16 (gd : Int), .int .u32 (seq : Int), .int .u32 (ack : Int), .int .u8 (flags : Int), .int .u16 (wnd : Int), .int .u16 (mss : Int), .bool true, .int .u8 (scale : Int), .string (bs data)] 25)).alloc (.cells #[.int .u8 (scale : Int)] 5) = w0 at *
        obtain ⟨c0, c1, c2, c3, c4, c5, c6, c7, c8, c9⟩ := ten_cells GW.out
        have lc0 := later_cell c0
        have lc1 := later_cell c1
        have lc2 := later_cell c2
        have lc3 := later_cell c3
        refine wp_region_later (by kernel_rfl) (by kernel_rfl) ?_
        repeat ((go_big_quiet_step ((first | (go_at_call 12; with_reducible exact calls_later (N4.out _)) | (go_at_call 12; with_reducible exact calls_later (N8.out _))))))
        refine wpQuiet_nil ?_
        intro wL hwL
        obtain ⟨⟨w8, hL⟩, e8⟩ := hwL
        change wL = w8 at e8
        subst e8
        have GL := hid (keepB hL GW.out)
        have BL := hid (below_to BW.out hL)
        clear lc0 lc1 lc2 lc3 c0 c1 c2 c3 c4 c5 c6 c7 c8 c9 hL GW BW
        obtain ⟨c0, c1, c2, c3, c4, c5, c6, c7, c8, c9⟩ := ten_cells GL.out
        go_wp2_with fail
        have hwr : IntKind.u8.wrap (IntKind.u8.wrap (IntKind.i64.wrap 24) * 4) = 96 := rfl
        have lc4 := later_cell c4
        have lc5 := later_cell c5
        refine wp_region_gho [8] (fun _ u w => ∃ b, u = .slice (some ⟨b, 0, none⟩) 2 2 ∧ w.heap[b]? = some (.cells #[.int .u8 96, .int .u8 (flags : Int)] 5 (0, 0))) (by kernel_rfl) (by kernel_rfl) (by kernel_rfl) (fun _ u w w' ⟨b, h1, h2⟩ hb => ⟨b, h1, keepB hb h2⟩) ?_
        repeat (first | (refine wpGho_plain (by kernel_rfl) (by decide) (by rfl) (by rfl) (fun K hK => ?_); go_simp; refine hK _ ?_; clear hK K; try go_ints) | (refine wpGho_plain (by kernel_rfl) (by decide) (by rfl) (by rfl) (fun K hK => ?_); go_simp; refine ⟨_, fun x => (N2.out _), hK _ ?_⟩; clear hK K; try go_ints))
        refine wpGho_make (by kernel_rfl) (by decide) (by rfl) (by rfl) (by rfl) (fun K hK => ?_)
        go_simp
        refine ⟨fun x => ⟨below_new _, _, rfl, alloc_at _ _⟩, hK _ ?_⟩
        clear hK K
        refine wpGho_read (by decide) (by rfl) (fun K hK => ?_)
        refine ⟨.string (bs [UInt8.ofNat 96, UInt8.ofNat flags]), fun g x hR => ?_, hK _ ?_⟩
        · obtain ⟨b, hb, hc⟩ := hR 8 (by decide) (by kernel_rfl)
          rw [show ∀ a, over _ [8] g a = Act.put a (some 89) (g 8) from fun _ => rfl, hb]
          have cv := conv_two 96 flags (by decide) q5 x.w' b (cell_at hc 0) (cell_at hc 1)
          clear lc4 lc5 hR
          go_simp
          done
        clear hK K
        simp only [Act.put, List.setIfInBounds_toArray, List.set_cons_zero, List.set_cons_succ]
        repeat (first | (refine wpGho_plain (by kernel_rfl) (by decide) (by rfl) (by rfl) (fun K hK => ?_); go_simp; refine hK _ ?_; clear hK K; try go_ints) | (refine wpGho_plain (by kernel_rfl) (by decide) (by rfl) (by rfl) (fun K hK => ?_); go_simp; refine ⟨_, fun x => (N2.out _), hK _ ?_⟩; clear hK K; try go_ints))
        refine wpGho_nil ?_
        intro g wM hwM hR
        obtain ⟨⟨w8, hM⟩, e8⟩ := hwM
        change wM = w8 at e8
        subst e8
        obtain ⟨b8, hb8, hc8⟩ := hR 8 (by decide)
        rw [show ∀ a, over _ [8] g a = Act.put a (some 89) (g 8) from fun _ => rfl, hb8]
        simp only [Act.put, List.setIfInBounds_toArray, List.set_cons_zero, List.set_cons_succ]
        have GM := hid (keepB hM GL.out)
        have BM := hid (below_to BL.out hM)
        clear lc4 lc5 c0 c1 c2 c3 c4 c5 c6 c7 c8 c9 hM GL BL hb8 hc8 hR hwr
        obtain ⟨c0, c1, c2, c3, c4, c5, c6, c7, c8, c9⟩ := ten_cells GM.out
        go_wp2_with fail
        have hsum := segsum_any (be 4 nA ++ (be 8 nB ++ 96 :: UInt8.ofNat flags :: (be 2 wnd ++ 0 :: 0 :: 0 :: 0 :: (1 :: 3 :: 3 :: UInt8.ofNat scale :: data)))) src dst wM (by simp only [List.length_append, List.length_cons, List.length_nil, be_length]; omega) hsr hds
        have hclt := csum_lt (be 4 nA ++ (be 8 nB ++ 96 :: UInt8.ofNat flags :: (be 2 wnd ++ 0 :: 0 :: 0 :: 0 :: (1 :: 3 :: 3 :: UInt8.ofNat scale :: data)))) src dst
        obtain ⟨c, hc⟩ : ∃ c, csum (be 4 nA ++ (be 8 nB ++ 96 :: UInt8.ofNat flags :: (be 2 wnd ++ 0 :: 0 :: 0 :: 0 :: (1 :: 3 :: 3 :: UInt8.ofNat scale :: data)))) src dst = c := ⟨_, rfl⟩
        rw [hc] at hsum hclt
        have HC := hid hc
        clear hc
        refine hsum.mono ?_
        rintro e w10 ⟨rfl, hb10⟩
        have B10 := hid (below_to BM.out hb10)
        have hwc : IntKind.u64.wrap (c : Int) = (c : Int) := IntWalk.u64_in _ (by omega)
        clear hsum hb10 GM BM c0 c1 c2 c3 c4 c5 c6 c7 c8 c9
        go_wp2_with fail
        refine (number_2 c _ (by omega)).mono ?_
        rintro e w11 ⟨rfl, hb11⟩
        have B11 := hid (below_to B10.out hb11)
        clear hb11 B10
        go_wp2_with fail
        refine bodyPost_ret (v := .tuple #[.string (bs (be 4 nA ++ (be 8 nB ++ 96 :: UInt8.ofNat flags :: (be 2 wnd ++ (be 2 c ++ 0 :: 0 :: (1 :: 3 :: 3 :: UInt8.ofNat scale :: data)))))), .int .i64 0]) (by simp [results, Try.results7, go_sem]) rfl ⟨?_, B11.out⟩
        have HB := bytes_form ⟨gs, gd, seq, ack, flags, wnd, mss, true, scale, data⟩ src dst nA nB ([1, 3, 3, UInt8.ofNat scale]) (by have hm := HM.out; simp [Sg.opts, hm]) 96 rfl c HNA.out HNB.out (by have h := HC.out; simpa using h)
        rw [HB]
        simp
      · have ts : ((scale : Int) != 0) = true := by rw [bne_iff_ne]; omega
        clear hs0
        go_enter Try.func7, Try.ntmps7
        go_wp2_with fail
        have GW := hid (alloc_old (o' := .cells #[.int .u8 (scale : Int)] 5) (alloc_at W (.cells #[.int .u16 (gs : Int), .int .u16 (gd : Int), .int .u32 (seq : Int), .int .u32 (ack : Int), .int .u8 (flags : Int), .int .u16 (wnd : Int), .int .u16 (mss : Int), .bool true, .int .u8 (scale : Int), .string (bs data)] 25)))
        have BW := hid (below_alloc (below_new (w := W) (.cells #[.int .u16 (gs : Int), .int .u16 (gd : Int), .int .u32 (seq : Int), .int .u32 (ack : Int), .int .u8 (flags : Int), .int .u16 (wnd : Int), .int .u16 (mss : Int), .bool true, .int .u8 (scale : Int), .string (bs data)] 25)) (.cells #[.int .u8 (scale : Int)] 5))
        clear cv1
        generalize (W.alloc (.cells #[.int .u16 (gs : Int), .int .u16 (gd : Int), .int .u32 (seq : Int), .int .u32 (ack : Int), .int .u8 (flags : Int), .int .u16 (wnd : Int), .int .u16 (mss : Int), .bool true, .int .u8 (scale : Int), .string (bs data)] 25)).alloc (.cells #[.int .u8 (scale : Int)] 5) = w0 at *
        obtain ⟨c0, c1, c2, c3, c4, c5, c6, c7, c8, c9⟩ := ten_cells GW.out
        have lc0 := later_cell c0
        have lc1 := later_cell c1
        have lc2 := later_cell c2
        have lc3 := later_cell c3
        refine wp_region_later (by kernel_rfl) (by kernel_rfl) ?_
        repeat ((go_big_quiet_step ((first | (go_at_call 12; with_reducible exact calls_later (N4.out _)) | (go_at_call 12; with_reducible exact calls_later (N8.out _))))))
        refine wpQuiet_nil ?_
        intro wL hwL
        obtain ⟨⟨w8, hL⟩, e8⟩ := hwL
        change wL = w8 at e8
        subst e8
        have GL := hid (keepB hL GW.out)
        have BL := hid (below_to BW.out hL)
        clear lc0 lc1 lc2 lc3 c0 c1 c2 c3 c4 c5 c6 c7 c8 c9 hL GW BW
        obtain ⟨c0, c1, c2, c3, c4, c5, c6, c7, c8, c9⟩ := ten_cells GL.out
        go_wp2_with fail
        have hwr : IntKind.u8.wrap (IntKind.u8.wrap (IntKind.i64.wrap 24) * 4) = 96 := rfl
        have lc4 := later_cell c4
        have lc5 := later_cell c5
        refine wp_region_gho [8] (fun _ u w => ∃ b, u = .slice (some ⟨b, 0, none⟩) 2 2 ∧ w.heap[b]? = some (.cells #[.int .u8 96, .int .u8 (flags : Int)] 5 (0, 0))) (by kernel_rfl) (by kernel_rfl) (by kernel_rfl) (fun _ u w w' ⟨b, h1, h2⟩ hb => ⟨b, h1, keepB hb h2⟩) ?_
        repeat (first | (refine wpGho_plain (by kernel_rfl) (by decide) (by rfl) (by rfl) (fun K hK => ?_); go_simp; refine hK _ ?_; clear hK K; try go_ints) | (refine wpGho_plain (by kernel_rfl) (by decide) (by rfl) (by rfl) (fun K hK => ?_); go_simp; refine ⟨_, fun x => (N2.out _), hK _ ?_⟩; clear hK K; try go_ints))
        refine wpGho_make (by kernel_rfl) (by decide) (by rfl) (by rfl) (by rfl) (fun K hK => ?_)
        go_simp
        refine ⟨fun x => ⟨below_new _, _, rfl, alloc_at _ _⟩, hK _ ?_⟩
        clear hK K
        refine wpGho_read (by decide) (by rfl) (fun K hK => ?_)
        refine ⟨.string (bs [UInt8.ofNat 96, UInt8.ofNat flags]), fun g x hR => ?_, hK _ ?_⟩
        · obtain ⟨b, hb, hc⟩ := hR 8 (by decide) (by kernel_rfl)
          rw [show ∀ a, over _ [8] g a = Act.put a (some 89) (g 8) from fun _ => rfl, hb]
          have cv := conv_two 96 flags (by decide) q5 x.w' b (cell_at hc 0) (cell_at hc 1)
          clear lc4 lc5 hR
          go_simp
          done
        clear hK K
        simp only [Act.put, List.setIfInBounds_toArray, List.set_cons_zero, List.set_cons_succ]
        repeat (first | (refine wpGho_plain (by kernel_rfl) (by decide) (by rfl) (by rfl) (fun K hK => ?_); go_simp; refine hK _ ?_; clear hK K; try go_ints) | (refine wpGho_plain (by kernel_rfl) (by decide) (by rfl) (by rfl) (fun K hK => ?_); go_simp; refine ⟨_, fun x => (N2.out _), hK _ ?_⟩; clear hK K; try go_ints))
        refine wpGho_nil ?_
        intro g wM hwM hR
        obtain ⟨⟨w8, hM⟩, e8⟩ := hwM
        change wM = w8 at e8
        subst e8
        obtain ⟨b8, hb8, hc8⟩ := hR 8 (by decide)
        rw [show ∀ a, over _ [8] g a = Act.put a (some 89) (g 8) from fun _ => rfl, hb8]
        simp only [Act.put, List.setIfInBounds_toArray, List.set_cons_zero, List.set_cons_succ]
        have GM := hid (keepB hM GL.out)
        have BM := hid (below_to BL.out hM)
        clear lc4 lc5 c0 c1 c2 c3 c4 c5 c6 c7 c8 c9 hM GL BL hb8 hc8 hR hwr
        obtain ⟨c0, c1, c2, c3, c4, c5, c6, c7, c8, c9⟩ := ten_cells GM.out
        go_wp2_with fail
        have hsum := segsum_any (be 4 nA ++ (be 8 nB ++ 96 :: UInt8.ofNat flags :: (be 2 wnd ++ 0 :: 0 :: 0 :: 0 :: (1 :: 3 :: 3 :: UInt8.ofNat scale :: data)))) src dst wM (by simp only [List.length_append, List.length_cons, List.length_nil, be_length]; omega) hsr hds
        have hclt := csum_lt (be 4 nA ++ (be 8 nB ++ 96 :: UInt8.ofNat flags :: (be 2 wnd ++ 0 :: 0 :: 0 :: 0 :: (1 :: 3 :: 3 :: UInt8.ofNat scale :: data)))) src dst
        obtain ⟨c, hc⟩ : ∃ c, csum (be 4 nA ++ (be 8 nB ++ 96 :: UInt8.ofNat flags :: (be 2 wnd ++ 0 :: 0 :: 0 :: 0 :: (1 :: 3 :: 3 :: UInt8.ofNat scale :: data)))) src dst = c := ⟨_, rfl⟩
        rw [hc] at hsum hclt
        have HC := hid hc
        clear hc
        refine hsum.mono ?_
        rintro e w10 ⟨rfl, hb10⟩
        have B10 := hid (below_to BM.out hb10)
        have hwc : IntKind.u64.wrap (c : Int) = (c : Int) := IntWalk.u64_in _ (by omega)
        clear hsum hb10 GM BM c0 c1 c2 c3 c4 c5 c6 c7 c8 c9
        go_wp2_with fail
        refine (number_2 c _ (by omega)).mono ?_
        rintro e w11 ⟨rfl, hb11⟩
        have B11 := hid (below_to B10.out hb11)
        clear hb11 B10
        go_wp2_with fail
        refine bodyPost_ret (v := .tuple #[.string (bs (be 4 nA ++ (be 8 nB ++ 96 :: UInt8.ofNat flags :: (be 2 wnd ++ (be 2 c ++ 0 :: 0 :: (1 :: 3 :: 3 :: UInt8.ofNat scale :: data)))))), .int .i64 0]) (by simp [results, Try.results7, go_sem]) rfl ⟨?_, B11.out⟩
        have HB := bytes_form ⟨gs, gd, seq, ack, flags, wnd, mss, true, scale, data⟩ src dst nA nB ([1, 3, 3, UInt8.ofNat scale]) (by have hm := HM.out; simp [Sg.opts, hm]) 96 rfl c HNA.out HNB.out (by have h := HC.out; simpa using h)
        rw [HB]
        simp
  · have tm : ((mss : Int) != 0) = true := by rw [bne_iff_ne]; omega
    rw [hsy (.inl hm), if_pos rfl] at hand
    have hw : IntKind.u64.wrap (mss : Int) = (mss : Int) := IntWalk.u64_in _ (by omega)
    have hn2 := hid (fun w => number_2 mss w (by omega))
    have cv1 := fun w => conv_one scale hsc w
    have HM := hid hm
    cases has
    · have ts : ((scale : Int) != 0) = false := by rw [bne_eq_false_iff_eq]; have := hz rfl; omega
      clear hz hsy hb hm
      go_enter Try.func7, Try.ntmps7
      go_wp2_with fail
      refine (hn2.out _).mono ?_
      rintro e w1 ⟨rfl, hb1⟩
      have GW := hid (keepB hb1 (alloc_at W _))
      have BW := hid (below_to (below_new _) hb1)
      obtain ⟨c0, c1, c2, c3, c4, c5, c6, c7, c8, c9⟩ := ten_cells GW.out
      clear hb1
      go_wp2_with fail
      clear c0 c1 c2 c3 c4 c5 c6 c7 c8 c9
      obtain ⟨c0, c1, c2, c3, c4, c5, c6, c7, c8, c9⟩ := ten_cells GW.out
      have lc0 := later_cell c0
      have lc1 := later_cell c1
      have lc2 := later_cell c2
      have lc3 := later_cell c3
      refine wp_region_later (by kernel_rfl) (by kernel_rfl) ?_
      repeat ((go_big_quiet_step ((first | (go_at_call 12; with_reducible exact calls_later (N4.out _)) | (go_at_call 12; with_reducible exact calls_later (N8.out _))))))
      refine wpQuiet_nil ?_
      intro wL hwL
      obtain ⟨⟨w8, hL⟩, e8⟩ := hwL
      change wL = w8 at e8
      subst e8
      have GL := hid (keepB hL GW.out)
      have BL := hid (below_to BW.out hL)
      clear lc0 lc1 lc2 lc3 c0 c1 c2 c3 c4 c5 c6 c7 c8 c9 hL GW BW
      obtain ⟨c0, c1, c2, c3, c4, c5, c6, c7, c8, c9⟩ := ten_cells GL.out
      go_wp2_with fail
      have hwr : IntKind.u8.wrap (IntKind.u8.wrap (IntKind.i64.wrap 24) * 4) = 96 := rfl
      have lc4 := later_cell c4
      have lc5 := later_cell c5
      refine wp_region_gho [8] (fun _ u w => ∃ b, u = .slice (some ⟨b, 0, none⟩) 2 2 ∧ w.heap[b]? = some (.cells #[.int .u8 96, .int .u8 (flags : Int)] 5 (0, 0))) (by kernel_rfl) (by kernel_rfl) (by kernel_rfl) (fun _ u w w' ⟨b, h1, h2⟩ hb => ⟨b, h1, keepB hb h2⟩) ?_
      repeat (first | (refine wpGho_plain (by kernel_rfl) (by decide) (by rfl) (by rfl) (fun K hK => ?_); go_simp; refine hK _ ?_; clear hK K; try go_ints) | (refine wpGho_plain (by kernel_rfl) (by decide) (by rfl) (by rfl) (fun K hK => ?_); go_simp; refine ⟨_, fun x => (N2.out _), hK _ ?_⟩; clear hK K; try go_ints))
      refine wpGho_make (by kernel_rfl) (by decide) (by rfl) (by rfl) (by rfl) (fun K hK => ?_)
      go_simp
      refine ⟨fun x => ⟨below_new _, _, rfl, alloc_at _ _⟩, hK _ ?_⟩
      clear hK K
      refine wpGho_read (by decide) (by rfl) (fun K hK => ?_)
      refine ⟨.string (bs [UInt8.ofNat 96, UInt8.ofNat flags]), fun g x hR => ?_, hK _ ?_⟩
      · obtain ⟨b, hb, hc⟩ := hR 8 (by decide) (by kernel_rfl)
        rw [show ∀ a, over _ [8] g a = Act.put a (some 89) (g 8) from fun _ => rfl, hb]
        have cv := conv_two 96 flags (by decide) q5 x.w' b (cell_at hc 0) (cell_at hc 1)
        clear lc4 lc5 hR
        go_simp
        done
      clear hK K
      simp only [Act.put, List.setIfInBounds_toArray, List.set_cons_zero, List.set_cons_succ]
      repeat (first | (refine wpGho_plain (by kernel_rfl) (by decide) (by rfl) (by rfl) (fun K hK => ?_); go_simp; refine hK _ ?_; clear hK K; try go_ints) | (refine wpGho_plain (by kernel_rfl) (by decide) (by rfl) (by rfl) (fun K hK => ?_); go_simp; refine ⟨_, fun x => (N2.out _), hK _ ?_⟩; clear hK K; try go_ints))
      refine wpGho_nil ?_
      intro g wM hwM hR
      obtain ⟨⟨w8, hM⟩, e8⟩ := hwM
      change wM = w8 at e8
      subst e8
      obtain ⟨b8, hb8, hc8⟩ := hR 8 (by decide)
      rw [show ∀ a, over _ [8] g a = Act.put a (some 89) (g 8) from fun _ => rfl, hb8]
      simp only [Act.put, List.setIfInBounds_toArray, List.set_cons_zero, List.set_cons_succ]
      have GM := hid (keepB hM GL.out)
      have BM := hid (below_to BL.out hM)
      clear lc4 lc5 c0 c1 c2 c3 c4 c5 c6 c7 c8 c9 hM GL BL hb8 hc8 hR hwr
      obtain ⟨c0, c1, c2, c3, c4, c5, c6, c7, c8, c9⟩ := ten_cells GM.out
      go_wp2_with fail
      have hsum := segsum_any (be 4 nA ++ (be 8 nB ++ 96 :: UInt8.ofNat flags :: (be 2 wnd ++ 0 :: 0 :: 0 :: 0 :: (2 :: 4 :: (be 2 mss ++ data))))) src dst wM (by simp only [List.length_append, List.length_cons, List.length_nil, be_length]; omega) hsr hds
      have hclt := csum_lt (be 4 nA ++ (be 8 nB ++ 96 :: UInt8.ofNat flags :: (be 2 wnd ++ 0 :: 0 :: 0 :: 0 :: (2 :: 4 :: (be 2 mss ++ data))))) src dst
      obtain ⟨c, hc⟩ : ∃ c, csum (be 4 nA ++ (be 8 nB ++ 96 :: UInt8.ofNat flags :: (be 2 wnd ++ 0 :: 0 :: 0 :: 0 :: (2 :: 4 :: (be 2 mss ++ data))))) src dst = c := ⟨_, rfl⟩
      rw [hc] at hsum hclt
      have HC := hid hc
      clear hc
      refine hsum.mono ?_
      rintro e w10 ⟨rfl, hb10⟩
      have B10 := hid (below_to BM.out hb10)
      have hwc : IntKind.u64.wrap (c : Int) = (c : Int) := IntWalk.u64_in _ (by omega)
      clear hsum hb10 GM BM c0 c1 c2 c3 c4 c5 c6 c7 c8 c9
      go_wp2_with fail
      refine (number_2 c _ (by omega)).mono ?_
      rintro e w11 ⟨rfl, hb11⟩
      have B11 := hid (below_to B10.out hb11)
      clear hb11 B10
      go_wp2_with fail
      refine bodyPost_ret (v := .tuple #[.string (bs (be 4 nA ++ (be 8 nB ++ 96 :: UInt8.ofNat flags :: (be 2 wnd ++ (be 2 c ++ 0 :: 0 :: (2 :: 4 :: (be 2 mss ++ data))))))), .int .i64 0]) (by simp [results, Try.results7, go_sem]) rfl ⟨?_, B11.out⟩
      have HB := bytes_form ⟨gs, gd, seq, ack, flags, wnd, mss, false, scale, data⟩ src dst nA nB (2 :: 4 :: be 2 mss) (by have hm := HM.out; simp [Sg.opts, hm]) 96 rfl c HNA.out HNB.out (by have h := HC.out; simpa using h)
      rw [HB]
      simp
    · clear hz hsy hb hm
      by_cases hs0 : scale = 0
      · have ts : ((scale : Int) != 0) = false := by rw [bne_eq_false_iff_eq]; omega
        clear hs0
        go_enter Try.func7, Try.ntmps7
        go_wp2_with fail
        refine (hn2.out _).mono ?_
        rintro e w1 ⟨rfl, hb1⟩
        have G1 := hid (keepB hb1 (alloc_at W _))
        have B1 := hid (below_to (below_new _) hb1)
        obtain ⟨c0, c1, c2, c3, c4, c5, c6, c7, c8, c9⟩ := ten_cells G1.out
        clear hb1
        go_wp2_with fail
        have GW := hid (alloc_old (o' := .cells #[.int .u8 (scale : Int)] 5) G1.out)
        have BW := hid (below_alloc B1.out (.cells #[.int .u8 (scale : Int)] 5))
        clear c0 c1 c2 c3 c4 c5 c6 c7 c8 c9 G1 B1
        generalize w1.alloc (.cells #[.int .u8 (scale : Int)] 5) = w0 at *
        obtain ⟨c0, c1, c2, c3, c4, c5, c6, c7, c8, c9⟩ := ten_cells GW.out
        have lc0 := later_cell c0
        have lc1 := later_cell c1
        have lc2 := later_cell c2
        have lc3 := later_cell c3
        refine wp_region_later (by kernel_rfl) (by kernel_rfl) ?_
        repeat ((go_big_quiet_step ((first | (go_at_call 12; with_reducible exact calls_later (N4.out _)) | (go_at_call 12; with_reducible exact calls_later (N8.out _))))))
        refine wpQuiet_nil ?_
        intro wL hwL
        obtain ⟨⟨w8, hL⟩, e8⟩ := hwL
        change wL = w8 at e8
        subst e8
        have GL := hid (keepB hL GW.out)
        have BL := hid (below_to BW.out hL)
        clear lc0 lc1 lc2 lc3 c0 c1 c2 c3 c4 c5 c6 c7 c8 c9 hL GW BW
        obtain ⟨c0, c1, c2, c3, c4, c5, c6, c7, c8, c9⟩ := ten_cells GL.out
        go_wp2_with fail
        have hwr : IntKind.u8.wrap (IntKind.u8.wrap (IntKind.i64.wrap 28) * 4) = 112 := rfl
        have lc4 := later_cell c4
        have lc5 := later_cell c5
        refine wp_region_gho [8] (fun _ u w => ∃ b, u = .slice (some ⟨b, 0, none⟩) 2 2 ∧ w.heap[b]? = some (.cells #[.int .u8 112, .int .u8 (flags : Int)] 5 (0, 0))) (by kernel_rfl) (by kernel_rfl) (by kernel_rfl) (fun _ u w w' ⟨b, h1, h2⟩ hb => ⟨b, h1, keepB hb h2⟩) ?_
        repeat (first | (refine wpGho_plain (by kernel_rfl) (by decide) (by rfl) (by rfl) (fun K hK => ?_); go_simp; refine hK _ ?_; clear hK K; try go_ints) | (refine wpGho_plain (by kernel_rfl) (by decide) (by rfl) (by rfl) (fun K hK => ?_); go_simp; refine ⟨_, fun x => (N2.out _), hK _ ?_⟩; clear hK K; try go_ints))
        refine wpGho_make (by kernel_rfl) (by decide) (by rfl) (by rfl) (by rfl) (fun K hK => ?_)
        go_simp
        refine ⟨fun x => ⟨below_new _, _, rfl, alloc_at _ _⟩, hK _ ?_⟩
        clear hK K
        refine wpGho_read (by decide) (by rfl) (fun K hK => ?_)
        refine ⟨.string (bs [UInt8.ofNat 112, UInt8.ofNat flags]), fun g x hR => ?_, hK _ ?_⟩
        · obtain ⟨b, hb, hc⟩ := hR 8 (by decide) (by kernel_rfl)
          rw [show ∀ a, over _ [8] g a = Act.put a (some 89) (g 8) from fun _ => rfl, hb]
          have cv := conv_two 112 flags (by decide) q5 x.w' b (cell_at hc 0) (cell_at hc 1)
          clear lc4 lc5 hR
          go_simp
          done
        clear hK K
        simp only [Act.put, List.setIfInBounds_toArray, List.set_cons_zero, List.set_cons_succ]
        repeat (first | (refine wpGho_plain (by kernel_rfl) (by decide) (by rfl) (by rfl) (fun K hK => ?_); go_simp; refine hK _ ?_; clear hK K; try go_ints) | (refine wpGho_plain (by kernel_rfl) (by decide) (by rfl) (by rfl) (fun K hK => ?_); go_simp; refine ⟨_, fun x => (N2.out _), hK _ ?_⟩; clear hK K; try go_ints))
        refine wpGho_nil ?_
        intro g wM hwM hR
        obtain ⟨⟨w8, hM⟩, e8⟩ := hwM
        change wM = w8 at e8
        subst e8
        obtain ⟨b8, hb8, hc8⟩ := hR 8 (by decide)
        rw [show ∀ a, over _ [8] g a = Act.put a (some 89) (g 8) from fun _ => rfl, hb8]
        simp only [Act.put, List.setIfInBounds_toArray, List.set_cons_zero, List.set_cons_succ]
        have GM := hid (keepB hM GL.out)
        have BM := hid (below_to BL.out hM)
        clear lc4 lc5 c0 c1 c2 c3 c4 c5 c6 c7 c8 c9 hM GL BL hb8 hc8 hR hwr
        obtain ⟨c0, c1, c2, c3, c4, c5, c6, c7, c8, c9⟩ := ten_cells GM.out
        go_wp2_with fail
        have hsum := segsum_any (be 4 nA ++ (be 8 nB ++ 112 :: UInt8.ofNat flags :: (be 2 wnd ++ 0 :: 0 :: 0 :: 0 :: (2 :: 4 :: (be 2 mss ++ 1 :: 3 :: 3 :: UInt8.ofNat scale :: data))))) src dst wM (by simp only [List.length_append, List.length_cons, List.length_nil, be_length]; omega) hsr hds
        have hclt := csum_lt (be 4 nA ++ (be 8 nB ++ 112 :: UInt8.ofNat flags :: (be 2 wnd ++ 0 :: 0 :: 0 :: 0 :: (2 :: 4 :: (be 2 mss ++ 1 :: 3 :: 3 :: UInt8.ofNat scale :: data))))) src dst
        obtain ⟨c, hc⟩ : ∃ c, csum (be 4 nA ++ (be 8 nB ++ 112 :: UInt8.ofNat flags :: (be 2 wnd ++ 0 :: 0 :: 0 :: 0 :: (2 :: 4 :: (be 2 mss ++ 1 :: 3 :: 3 :: UInt8.ofNat scale :: data))))) src dst = c := ⟨_, rfl⟩
        rw [hc] at hsum hclt
        have HC := hid hc
        clear hc
        refine hsum.mono ?_
        rintro e w10 ⟨rfl, hb10⟩
        have B10 := hid (below_to BM.out hb10)
        have hwc : IntKind.u64.wrap (c : Int) = (c : Int) := IntWalk.u64_in _ (by omega)
        clear hsum hb10 GM BM c0 c1 c2 c3 c4 c5 c6 c7 c8 c9
        go_wp2_with fail
        refine (number_2 c _ (by omega)).mono ?_
        rintro e w11 ⟨rfl, hb11⟩
        have B11 := hid (below_to B10.out hb11)
        clear hb11 B10
        go_wp2_with fail
        refine bodyPost_ret (v := .tuple #[.string (bs (be 4 nA ++ (be 8 nB ++ 112 :: UInt8.ofNat flags :: (be 2 wnd ++ (be 2 c ++ 0 :: 0 :: (2 :: 4 :: (be 2 mss ++ 1 :: 3 :: 3 :: UInt8.ofNat scale :: data))))))), .int .i64 0]) (by simp [results, Try.results7, go_sem]) rfl ⟨?_, B11.out⟩
        have HB := bytes_form ⟨gs, gd, seq, ack, flags, wnd, mss, true, scale, data⟩ src dst nA nB (2 :: 4 :: (be 2 mss ++ [1, 3, 3, UInt8.ofNat scale])) (by have hm := HM.out; simp [Sg.opts, hm]) 112 rfl c HNA.out HNB.out (by have h := HC.out; simpa using h)
        rw [HB]
        simp
      · have ts : ((scale : Int) != 0) = true := by rw [bne_iff_ne]; omega
        clear hs0
        go_enter Try.func7, Try.ntmps7
        go_wp2_with fail
        refine (hn2.out _).mono ?_
        rintro e w1 ⟨rfl, hb1⟩
        have G1 := hid (keepB hb1 (alloc_at W _))
        have B1 := hid (below_to (below_new _) hb1)
        obtain ⟨c0, c1, c2, c3, c4, c5, c6, c7, c8, c9⟩ := ten_cells G1.out
        clear hb1
        go_wp2_with fail
        have GW := hid (alloc_old (o' := .cells #[.int .u8 (scale : Int)] 5) G1.out)
        have BW := hid (below_alloc B1.out (.cells #[.int .u8 (scale : Int)] 5))
        clear c0 c1 c2 c3 c4 c5 c6 c7 c8 c9 G1 B1
        generalize w1.alloc (.cells #[.int .u8 (scale : Int)] 5) = w0 at *
        obtain ⟨c0, c1, c2, c3, c4, c5, c6, c7, c8, c9⟩ := ten_cells GW.out
        have lc0 := later_cell c0
        have lc1 := later_cell c1
        have lc2 := later_cell c2
        have lc3 := later_cell c3
        refine wp_region_later (by kernel_rfl) (by kernel_rfl) ?_
        repeat ((go_big_quiet_step ((first | (go_at_call 12; with_reducible exact calls_later (N4.out _)) | (go_at_call 12; with_reducible exact calls_later (N8.out _))))))
        refine wpQuiet_nil ?_
        intro wL hwL
        obtain ⟨⟨w8, hL⟩, e8⟩ := hwL
        change wL = w8 at e8
        subst e8
        have GL := hid (keepB hL GW.out)
        have BL := hid (below_to BW.out hL)
        clear lc0 lc1 lc2 lc3 c0 c1 c2 c3 c4 c5 c6 c7 c8 c9 hL GW BW
        obtain ⟨c0, c1, c2, c3, c4, c5, c6, c7, c8, c9⟩ := ten_cells GL.out
        go_wp2_with fail
        have hwr : IntKind.u8.wrap (IntKind.u8.wrap (IntKind.i64.wrap 28) * 4) = 112 := rfl
        have lc4 := later_cell c4
        have lc5 := later_cell c5
        refine wp_region_gho [8] (fun _ u w => ∃ b, u = .slice (some ⟨b, 0, none⟩) 2 2 ∧ w.heap[b]? = some (.cells #[.int .u8 112, .int .u8 (flags : Int)] 5 (0, 0))) (by kernel_rfl) (by kernel_rfl) (by kernel_rfl) (fun _ u w w' ⟨b, h1, h2⟩ hb => ⟨b, h1, keepB hb h2⟩) ?_
        repeat (first | (refine wpGho_plain (by kernel_rfl) (by decide) (by rfl) (by rfl) (fun K hK => ?_); go_simp; refine hK _ ?_; clear hK K; try go_ints) | (refine wpGho_plain (by kernel_rfl) (by decide) (by rfl) (by rfl) (fun K hK => ?_); go_simp; refine ⟨_, fun x => (N2.out _), hK _ ?_⟩; clear hK K; try go_ints))
        refine wpGho_make (by kernel_rfl) (by decide) (by rfl) (by rfl) (by rfl) (fun K hK => ?_)
        go_simp
        refine ⟨fun x => ⟨below_new _, _, rfl, alloc_at _ _⟩, hK _ ?_⟩
        clear hK K
        refine wpGho_read (by decide) (by rfl) (fun K hK => ?_)
        refine ⟨.string (bs [UInt8.ofNat 112, UInt8.ofNat flags]), fun g x hR => ?_, hK _ ?_⟩
        · obtain ⟨b, hb, hc⟩ := hR 8 (by decide) (by kernel_rfl)
          rw [show ∀ a, over _ [8] g a = Act.put a (some 89) (g 8) from fun _ => rfl, hb]
          have cv := conv_two 112 flags (by decide) q5 x.w' b (cell_at hc 0) (cell_at hc 1)
          clear lc4 lc5 hR
          go_simp
          done
        clear hK K
        simp only [Act.put, List.setIfInBounds_toArray, List.set_cons_zero, List.set_cons_succ]
        repeat (first | (refine wpGho_plain (by kernel_rfl) (by decide) (by rfl) (by rfl) (fun K hK => ?_); go_simp; refine hK _ ?_; clear hK K; try go_ints) | (refine wpGho_plain (by kernel_rfl) (by decide) (by rfl) (by rfl) (fun K hK => ?_); go_simp; refine ⟨_, fun x => (N2.out _), hK _ ?_⟩; clear hK K; try go_ints))
        refine wpGho_nil ?_
        intro g wM hwM hR
        obtain ⟨⟨w8, hM⟩, e8⟩ := hwM
        change wM = w8 at e8
        subst e8
        obtain ⟨b8, hb8, hc8⟩ := hR 8 (by decide)
        rw [show ∀ a, over _ [8] g a = Act.put a (some 89) (g 8) from fun _ => rfl, hb8]
        simp only [Act.put, List.setIfInBounds_toArray, List.set_cons_zero, List.set_cons_succ]
        have GM := hid (keepB hM GL.out)
        have BM := hid (below_to BL.out hM)
        clear lc4 lc5 c0 c1 c2 c3 c4 c5 c6 c7 c8 c9 hM GL BL hb8 hc8 hR hwr
        obtain ⟨c0, c1, c2, c3, c4, c5, c6, c7, c8, c9⟩ := ten_cells GM.out
        go_wp2_with fail
        have hsum := segsum_any (be 4 nA ++ (be 8 nB ++ 112 :: UInt8.ofNat flags :: (be 2 wnd ++ 0 :: 0 :: 0 :: 0 :: (2 :: 4 :: (be 2 mss ++ 1 :: 3 :: 3 :: UInt8.ofNat scale :: data))))) src dst wM (by simp only [List.length_append, List.length_cons, List.length_nil, be_length]; omega) hsr hds
        have hclt := csum_lt (be 4 nA ++ (be 8 nB ++ 112 :: UInt8.ofNat flags :: (be 2 wnd ++ 0 :: 0 :: 0 :: 0 :: (2 :: 4 :: (be 2 mss ++ 1 :: 3 :: 3 :: UInt8.ofNat scale :: data))))) src dst
        obtain ⟨c, hc⟩ : ∃ c, csum (be 4 nA ++ (be 8 nB ++ 112 :: UInt8.ofNat flags :: (be 2 wnd ++ 0 :: 0 :: 0 :: 0 :: (2 :: 4 :: (be 2 mss ++ 1 :: 3 :: 3 :: UInt8.ofNat scale :: data))))) src dst = c := ⟨_, rfl⟩
        rw [hc] at hsum hclt
        have HC := hid hc
        clear hc
        refine hsum.mono ?_
        rintro e w10 ⟨rfl, hb10⟩
        have B10 := hid (below_to BM.out hb10)
        have hwc : IntKind.u64.wrap (c : Int) = (c : Int) := IntWalk.u64_in _ (by omega)
        clear hsum hb10 GM BM c0 c1 c2 c3 c4 c5 c6 c7 c8 c9
        go_wp2_with fail
        refine (number_2 c _ (by omega)).mono ?_
        rintro e w11 ⟨rfl, hb11⟩
        have B11 := hid (below_to B10.out hb11)
        clear hb11 B10
        go_wp2_with fail
        refine bodyPost_ret (v := .tuple #[.string (bs (be 4 nA ++ (be 8 nB ++ 112 :: UInt8.ofNat flags :: (be 2 wnd ++ (be 2 c ++ 0 :: 0 :: (2 :: 4 :: (be 2 mss ++ 1 :: 3 :: 3 :: UInt8.ofNat scale :: data))))))), .int .i64 0]) (by simp [results, Try.results7, go_sem]) rfl ⟨?_, B11.out⟩
        have HB := bytes_form ⟨gs, gd, seq, ack, flags, wnd, mss, true, scale, data⟩ src dst nA nB (2 :: 4 :: (be 2 mss ++ [1, 3, 3, UInt8.ofNat scale])) (by have hm := HM.out; simp [Sg.opts, hm]) 112 rfl c HNA.out HNB.out (by have h := HC.out; simpa using h)
        rw [HB]
        simp

end Go.Proofs.Ytidkbphdihlbaaa
