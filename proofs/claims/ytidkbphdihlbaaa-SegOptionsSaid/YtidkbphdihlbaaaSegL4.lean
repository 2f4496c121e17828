/- The walk of the law SegOptions. -/
import Derived.Test.YtidkbphdihlbaaaSegP2
import Derived.Test.YtidkbphdihlbaaaSegL3
namespace Go.Proofs.Ytidkbphdihlbaaa
open Go.RowKit SG

attribute [local go_sem] be_length List.length_append
@[go_sem] theorem lit_append1 (x : UInt8) (l : List UInt8) : (⟨#[x]⟩ : ByteArray) ++ bs l = bs ([x] ++ l) := by rw [← bs_append]; rfl
@[go_sem] theorem append_lit1 (x : UInt8) (l : List UInt8) : bs l ++ (⟨#[x]⟩ : ByteArray) = bs (l ++ [x]) := by rw [← bs_append]; rfl
theorem mk0 (w : World) : (Instr.makeSlice 32 (.int .i64 0) (.int .i64 0)).run Try.prog w = .ok (.slice (some ⟨w.heap.size, 0, none⟩) 0 0) (w.alloc (.cells (brow (List.replicate 0 0)) 5)) := by kernel_rfl
theorem mk1 (w : World) : (Instr.makeSlice 32 (.int .i64 1) (.int .i64 1)).run Try.prog w = .ok (.slice (some ⟨w.heap.size, 0, none⟩) 1 1) (w.alloc (.cells (brow (List.replicate 1 0)) 5)) := by kernel_rfl
theorem mk3 (w : World) : (Instr.makeSlice 32 (.int .i64 3) (.int .i64 3)).run Try.prog w = .ok (.slice (some ⟨w.heap.size, 0, none⟩) 3 3) (w.alloc (.cells (brow (List.replicate 3 0)) 5)) := by kernel_rfl
theorem mk5 (w : World) : (Instr.makeSlice 32 (.int .i64 5) (.int .i64 5)).run Try.prog w = .ok (.slice (some ⟨w.heap.size, 0, none⟩) 5 5) (w.alloc (.cells (brow (List.replicate 5 0)) 5)) := by kernel_rfl
theorem make_few (m : Nat) (hm : m < 6) (w : World) : (Instr.makeSlice 32 (.int .i64 (m : Int)) (.int .i64 (m : Int))).run Try.prog w = .ok (.slice (some ⟨w.heap.size, 0, none⟩) m m) (w.alloc (.cells (brow (List.replicate m 0)) 5)) := by
  match m, hm with
  | 0, _ => exact mk0 w
  | 1, _ => exact mk1 w
  | 2, _ => exact make2 w
  | 3, _ => exact mk3 w
  | 4, _ => exact make4 w
  | 5, _ => exact mk5 w

theorem conv_one_at (c : Nat) (hc : c < 256) (w : World) (b : Nat) (h0 : w.cell? ⟨b, 0, none⟩ = some (.int .u8 (c : Int))) : (convert 32 9 (.slice (some ⟨b, 0, none⟩) 1 1)).run Try.prog w = .ok (.string (bs [UInt8.ofNat c])) w :=
  conv_string w b 0 1 1 [UInt8.ofNat c] rfl (fun j hj => by
    obtain rfl : j = 0 := by omega
    rw [Nat.zero_add, h0]
    show some (Value.int .u8 (c : Int)) = some (Value.int .u8 (((UInt8.ofNat c).toNat : Nat) : Int))
    rw [UInt8.toNat_ofNat', Nat.mod_eq_of_lt hc])
theorem be_two_of (c : Nat) : be 2 c = [UInt8.ofNat (c / 256 % 256), UInt8.ofNat (c % 256)] := rfl
/-- How long a text is. -/
def lenOfV : Value → Nat
  | .string s => s.size
  | _ => 0
/-- The segment with Syn. -/
def withSyn (g : Sg) : Sg := { g with flags := g.flags ||| 2 }
theorem or_two (n : Nat) (h : n < 256) : n ||| 2 < 256 ∧ syn (n ||| 2) = true := by
  have : ∀ m, m < 256 → m ||| 2 < 256 ∧ syn (m ||| 2) = true := by decide +kernel
  exact this n h

set_option maxRecDepth 100000 in
set_option maxHeartbeats 8000000 in
theorem options_any (g : Sg) (src dst : Nat) (ks : List UInt8) (a : Option Addr) (cap size : Nat) (W : World) (hf : g.Fits) (hsr : src < 4294967296) (hds : dst < 4294967296) (hsz : size < 256) (hdl : g.data.length ≤ maxLen) (hkl : ks.length ≤ maxLen)
    (ha : ks.length = 0 ∨ ∃ b off, a = some ⟨b, off, none⟩ ∧ b < W.heap.size ∧ ∀ j, j < ks.length → W.cell? ⟨b, off + j, none⟩ = some (.int .u8 ((ks.getD j 0).toNat : Int))) :
    Calls Try.prog 5 #[.agg (sgv g), .int .u32 (src : Int), .int .u32 (dst : Int), .slice a ks.length cap, .int .u8 (size : Int)] W fun e w' => e = .returned (.bool true) ∧ Below W.heap.size W w' := by
  unfold maxLen at hdl hkl
  have hor2 := or_two g.flags hf.flags
  have hfit : (withSyn g).Fits := ⟨hf.src, hf.dst, hf.seq, hf.ack, hor2.1, hf.wnd, hf.mss, hf.scale⟩
  have hbor : bits .or .u8 (g.flags : Int) (2 : Int) = ((g.flags ||| 2 : Nat) : Int) := u8_or_nat g.flags 2 hf.flags (by omega)
  have HA := hid ha
  clear ha
  by_cases hfar : 1000 < g.data.length ∨ 20 < ks.length
  · by_cases h13 : 1000 < g.data.length
    · have t1 : decide ((g.data.length : Int) > 1000) = true := decide_eq_true (by omega)
      have t1' : decide (1000 < (g.data.length : Int)) = true := decide_eq_true (by omega)
      have hbz : (bs g.data).size = g.data.length := rfl
      clear hfit hbor hor2 hf HA hfar
      obtain ⟨gs, gd, seq, ack, flags, wnd, mss, has, scale, data⟩ := g
      unfold sgv
      simp only [] at t1 t1' h13 hbz hdl ⊢
      go_enter Try.func5, Try.ntmps5
      go_wp2_with fail
      refine (works_any _).mono ?_
      rintro e w1 ⟨rfl, hb1⟩
      go_wp2_with fail
      go_ret
      exact ⟨rfl, below_to (below_new _) hb1⟩
    · have h20 := hfar.resolve_left h13
      have t1 : decide ((g.data.length : Int) > 1000) = false := decide_eq_false (by omega)
      have t1' : decide (1000 < (g.data.length : Int)) = false := decide_eq_false (by omega)
      have t2 : decide ((ks.length : Int) > 20) = true := decide_eq_true (by omega)
      have t2' : decide (20 < (ks.length : Int)) = true := decide_eq_true (by omega)
      have hbz : (bs g.data).size = g.data.length := rfl
      clear hfit hbor hor2 hf HA hfar
      obtain ⟨gs, gd, seq, ack, flags, wnd, mss, has, scale, data⟩ := g
      unfold sgv
      simp only [] at t1 t1' h13 hbz hdl ⊢
      go_enter Try.func5, Try.ntmps5
      go_wp2_with fail
      refine (works_any _).mono ?_
      rintro e w1 ⟨rfl, hb1⟩
      go_wp2_with fail
      go_ret
      exact ⟨rfl, below_to (below_new _) hb1⟩
  · have h13 : ¬ 1000 < g.data.length := fun h => hfar (.inl h)
    have h20 : ¬ 20 < ks.length := fun h => hfar (.inr h)
    have t1 : decide ((g.data.length : Int) > 1000) = false := decide_eq_false (by omega)
    have t1' : decide (1000 < (g.data.length : Int)) = false := decide_eq_false (by omega)
    have t2 : decide ((ks.length : Int) > 20) = false := decide_eq_false (by omega)
    have t2' : decide (20 < (ks.length : Int)) = false := decide_eq_false (by omega)
    have henc := fun w => encode_any (withSyn g) src dst w hfit hsr hds
    have hbad : (withSyn g).bad = true → encRes (withSyn g) src dst = .tuple #[.string ⟨#[]⟩, .int .i64 2] := fun h => by unfold encRes; rw [if_pos h]
    have hok : (withSyn g).bad = false → encRes (withSyn g) src dst = .tuple #[.string (bs ((withSyn g).bytes src dst)), .int .i64 0] := fun h => by unfold encRes; rw [h, if_neg (by decide), if_neg (by show ¬ 1460 < g.data.length; omega)]
    have hput := fun hb m j hm U hU h4 h40 T hT => dec_put (withSyn g) hfit hb src dst m j ks hm U hU h4 h40 T hT
    have hblen := bytes_len (withSyn g) src dst
    have holen := opts_len (withSyn g)
    have hx12 := bytes_12 (withSyn g) hfit src dst
    have hbz : (bs g.data).size = g.data.length := rfl
    have hrow : sgv (withSyn g) = #[.int .u16 (g.src : Int), .int .u16 (g.dst : Int), .int .u32 (g.seq : Int), .int .u32 (g.ack : Int), .int .u8 ((g.flags ||| 2 : Nat) : Int), .int .u16 (g.wnd : Int), .int .u16 (g.mss : Int), .bool g.has, .int .u8 (g.scale : Int), .string (bs g.data)] := rfl
    have htold : told (.inl (withSyn g)) = .tuple #[.agg (sgv (withSyn g)), .int .i64 0] := rfl
    rw [hrow] at henc htold
    generalize hB : (withSyn g).bytes src dst = B at *
    have hdle : (withSyn g).data.length = g.data.length := rfl
    rw [hdle] at hblen
    generalize (withSyn g).opts.length = ol at *
    obtain ⟨bad, hbd⟩ : ∃ b, (withSyn g).bad = b := ⟨_, rfl⟩
    rw [hbd] at hbad hok hput
    generalize encRes (withSyn g) src dst = er at *
    generalize (withSyn g) = gg at *
    generalize hfo : g.flags ||| 2 = fo at *
    clear hfo hfit hf hor2 hrow hdle hbd hB
    obtain ⟨gs, gd, seq, ack, flags, wnd, mss, has, scale, data⟩ := g
    unfold sgv
    simp only [] at t1 t1' h13 hbz hdl hblen henc htold hbor ⊢
    cases bad
    · rw [hok rfl] at henc
      have HE := hid henc
      have hB20 : 20 ≤ B.length := by omega
      have hBl : B.length ≤ 2000 := by omega
      have hbB : (bs B).size = B.length := rfl
      have t3 : decide ((B.length : Int) < 20) = false := decide_eq_false (by omega)
      clear henc hbad hok hblen
      go_enter Try.func5, Try.ntmps5
      go_wp2_with fail
      refine (HE.out _).mono ?_
      rintro e w1 ⟨rfl, hb1⟩
      have G1 := hid (keepB hb1 (alloc_at W _))
      have B1 := hid (below_to (below_new _) hb1)
      clear hb1
      go_wp2_with fail
      obtain ⟨m, hm⟩ : ∃ m, size % 6 = m := ⟨_, rfl⟩
      have hm6 : m < 6 := by omega
      have hmm : (size : Int) % 6 = (m : Int) := by omega
      have hws : IntKind.i64.wrap (size : Int) = (size : Int) := IntWalk.i64_in _ (by omega)
      have hwm : IntKind.u8.wrap ((m : Int) + 2) = (m : Int) + 2 := IntWalk.u8_in _ (by omega)
      have hmk := make_few m hm6
      obtain ⟨kl, hkl2⟩ : ∃ kl, ks.length = kl := ⟨_, rfl⟩
      rw [hkl2] at HA h20 t2 t2' ⊢
      have HKL := hid hkl2
      have HPUT := hid hput
      have HTOLD := hid htold
      clear hm hkl2 hput htold
      go_loopw [13, 14] (fun ov i wr => ∃ k : Nat, k ≤ kl ∧ i = .int .i64 (k : Int) ∧ ov = .string (bs (pieces m (ks.take k))) ∧ Below w1.heap.size w1 wr) (fun _ i _ => (kl - intOf i).toNat)
      case atStart => exact ⟨0, Nat.zero_le _, rfl, rfl, Below.refl _ _⟩
      case round =>
        obtain ⟨k, hk, rfl, rfl, rb⟩ := hrel
        have RB := hid rb
        have hpl := pieces_len m (ks.take k) hm6
        rw [List.length_take] at hpl
        by_cases hlt : k < kl
        · have hd : decide ((k : Int) < (kl : Int)) = true := decide_eq_true (by omega)
          have hdn : decide (k < kl) = true := decide_eq_true hlt
          have hne : ¬ kl = 0 := by omega
          obtain ⟨b, off, rfl, hb, hc⟩ := HA.out.resolve_left hne
          have ck := (rb.cell (p := ⟨b, off + k, none⟩) (Nat.lt_of_lt_of_le hb B1.out.size)).trans ((B1.out.cell (p := ⟨b, off + k, none⟩) hb).trans (hc k hlt))
          have k0 : 0 ≤ (k : Int) := by omega
          have k1 : (k : Int) < (kl : Int) := by omega
          have hpt := pieces_take m ks k (by rw [HKL.out]; exact hlt)
          generalize ks.getD k 0 = c at *
          have hPk : (pieces m (ks.take k)).length ≤ 140 := by omega
          clear hpl
          generalize pieces m (ks.take k) = Pk at *
          have hcl := c.toNat_lt
          have HPT := hid hpt
          have hbP : (bs Pk).size = Pk.length := rfl
          clear hc hpt rb
          by_cases h3 : c.toNat ≤ 3
          · have t3c : decide ((c.toNat : Int) ≤ 3) = true := decide_eq_true (by omega)
            have hpc : piece m c = [1] := if_pos h3
            go_wp2_with fail
            exact ⟨⟨k + 1, by omega, by go_num, by rw [HPT.out, hpc], RB.out⟩, by simp [intOf]; omega⟩
          · have t3c : decide ((c.toNat : Int) ≤ 3) = false := decide_eq_false (by omega)
            have hpc : piece m c = c :: UInt8.ofNat (m + 2) :: List.replicate m 0 := if_neg h3
            have cvy := fun w b => conv_two c.toNat (m + 2) hcl (by omega) w b
            rw [UInt8.ofNat_toNat] at cvy
            have hzl : (List.replicate m (0 : UInt8)).length = m := by simp
            generalize UInt8.ofNat (m + 2) = y at *
            generalize List.replicate m (0 : UInt8) = z at *
            have HCV := hid cvy
            clear cvy
            have hq1 : ¬ 9223372036854775807 < Pk.length + 2 := by omega
            have hq2 : ¬ 9223372036854775807 < Pk.length + 2 + m := by omega
            go_wp2_with fail
            have lck := later_cell ck
            refine wp_region_gho [7, 12] (fun i u w => (i = 7 → ∃ b, u = .slice (some ⟨b, 0, none⟩) 2 2 ∧ w.heap[b]? = some (.cells #[.int .u8 (c.toNat : Int), .int .u8 ((m : Int) + 2)] 5 (0, 0))) ∧ (i = 12 → ∃ b, u = .slice (some ⟨b, 0, none⟩) m m ∧ w.heap[b]? = some (.cells (brow z) 5 (0, 0)))) (by kernel_rfl) (by kernel_rfl) (by kernel_rfl) (fun _ u w w' ⟨h1, h2⟩ hb => ⟨fun e => by obtain ⟨b, x1, x2⟩ := h1 e; exact ⟨b, x1, keepB hb x2⟩, fun e => by obtain ⟨b, x1, x2⟩ := h2 e; exact ⟨b, x1, keepB hb x2⟩⟩) ?_
            repeat (first | (refine wpGho_plain (by kernel_rfl) (by decide) (by rfl) (by rfl) (fun K hK => ?_); go_simp; refine hK _ ?_; clear hK K; try go_ints))
            refine wpGho_make (by kernel_rfl) (by decide) (by rfl) (by rfl) (by rfl) (fun K hK => ?_)
            go_simp
            refine ⟨fun x => ⟨below_new _, _, rfl, alloc_at _ _⟩, hK _ ?_⟩
            clear hK K
            refine wpGho_read (by decide) (by rfl) (fun K hK => ?_)
            refine ⟨.string (bs [c, y]), fun g x hR => ?_, hK _ ?_⟩
            · obtain ⟨b7, hb7, hc7⟩ := (hR 7 (by decide) (by kernel_rfl)).1 rfl
              rw [show ∀ a, over _ [7, 12] g a = Act.put (Act.put a (some 78) (g 7)) (some 83) (g 12) from fun _ => rfl, hb7]
              have cv := HCV.out x.w' b7 (cell_at hc7 0) (cell_at hc7 1)
              clear lck hR
              go_simp
              done
            clear hK K
            simp only [Act.put, List.setIfInBounds_toArray, List.set_cons_zero, List.set_cons_succ]
            repeat (first | (refine wpGho_plain (by kernel_rfl) (by decide) (by rfl) (by rfl) (fun K hK => ?_); go_simp; refine hK _ ?_; clear hK K; try go_ints))
            refine wpGho_make (by kernel_rfl) (by decide) (by rfl) (by rfl) (by rfl) (fun K hK => ?_)
            go_simp
            refine ⟨fun x => ⟨below_new _, _, rfl, alloc_at _ _⟩, hK _ ?_⟩
            clear hK K
            refine wpGho_read (by decide) (by rfl) (fun K hK => ?_)
            refine ⟨.string (bs z), fun g x hR => ?_, hK _ ?_⟩
            · obtain ⟨b8, hb8, hc8⟩ := (hR 12 (by decide) (by kernel_rfl)).2 rfl
              rw [show ∀ a, over _ [7, 12] g a = Act.put (Act.put a (some 78) (g 7)) (some 83) (g 12) from fun _ => rfl, hb8]
              have cv := conv_string x.w' b8 0 m m z hzl (fun j hj => by rw [Nat.zero_add]; exact brow_cell hc8 (by rw [hzl]; exact hj))
              clear lck hR
              go_simp
              rfl
            clear hK K
            simp only [Act.put, List.setIfInBounds_toArray, List.set_cons_zero, List.set_cons_succ]
            repeat (first | (refine wpGho_plain (by kernel_rfl) (by decide) (by rfl) (by rfl) (fun K hK => ?_); go_simp; refine hK _ ?_; clear hK K; try go_ints))
            refine wpGho_nil ?_
            intro g wM hwM hR
            obtain ⟨⟨w8, hM⟩, e8⟩ := hwM
            change wM = w8 at e8
            subst e8
            obtain ⟨b7, hb7, hc7⟩ := (hR 7 (by decide)).1 rfl
            obtain ⟨b8, hb8, hc8⟩ := (hR 12 (by decide)).2 rfl
            rw [show ∀ a, over _ [7, 12] g a = Act.put (Act.put a (some 78) (g 7)) (some 83) (g 12) from fun _ => rfl, hb7, hb8]
            simp only [Act.put, List.setIfInBounds_toArray, List.set_cons_zero, List.set_cons_succ]
            have RM := hid (below_to RB.out hM)
            clear lck hM hc7 hc8 hR
            go_wp2_with fail
            exact ⟨⟨k + 1, by omega, by go_num, by rw [HPT.out, hpc], RM.out⟩, by simp [intOf]; omega⟩
        · obtain rfl : k = kl := by omega
          have hd : decide ((k : Int) < (k : Int)) = false := decide_eq_false (by omega)
          have hdn : decide (k < k) = false := decide_eq_false (by omega)
          have htk : ks.take k = ks := List.take_of_length_le (by rw [HKL.out]; exact Nat.le_refl _)
          rw [htk] at hpl ⊢
          have hPk : (pieces m ks).length ≤ 140 := by have := HKL.out; omega
          obtain ⟨Pk, hPe⟩ : ∃ Pk, pieces m ks = Pk := ⟨_, rfl⟩
          rw [hPe] at hPk ⊢
          have HPE := hid hPe
          clear hpl htk hPe rb HA HKL HE
          go_wp2_with fail
          obtain ⟨r, hr⟩ : ∃ r, Pk.length % 4 = r := ⟨_, rfl⟩
          go_loopw [13] (fun ov wr => ∃ j : Nat, j + r ≤ 4 ∧ (r = 0 → j = 0) ∧ ov = .string (bs (Pk ++ List.replicate j 1)) ∧ Below w1.heap.size w1 wr) (fun ov _ => 200 - lenOfV ov)
          case atStart => exact ⟨0, by omega, fun _ => rfl, by rw [List.replicate_zero, List.append_nil], RB.out⟩
          case round =>
            obtain ⟨j, hj, hj0, rfl, rb⟩ := hrel
            have RC := hid rb
            clear rb
            have hrl : (List.replicate j (1 : UInt8)).length = j := by simp
            have hul : (Pk ++ List.replicate j (1 : UInt8)).length = Pk.length + j := by rw [List.length_append, hrl]
            have hap : Pk ++ List.replicate (j + 1) (1 : UInt8) = (Pk ++ List.replicate j 1) ++ [1] := by rw [List.replicate_succ', List.append_assoc]
            have HAP := hid hap
            have HPJ := hid (rfl : Pk ++ List.replicate j (1 : UInt8) = Pk ++ List.replicate j 1)
            obtain ⟨U, hU⟩ : ∃ U, Pk ++ List.replicate j (1 : UInt8) = U := ⟨_, rfl⟩
            rw [hU] at hul ⊢
            have HU := hid hU
            have hbU : (bs U).size = U.length := rfl
            clear hap hrl HPJ hU
            by_cases hn : (Pk.length + j) % 4 = 0
            · have tn : ((U.length : Int) % 4 != 0) = false := by rw [bne_eq_false_iff_eq]; omega
              have hU4 : U.length % 4 = 0 := by omega
              have hUl : U.length ≤ 144 := by omega
              have B3 := hid (below_to B1.out RC.out)
              have G3 := hid (keepB RC.out G1.out)
              clear HAP hul hj hj0 hn RB B1 G1 RC hPk
              obtain ⟨x, hx⟩ : ∃ x, at8 B 12 = x := ⟨_, rfl⟩
              rw [hx] at hx12
              have hxl := x.toNat_lt
              obtain ⟨h, hh⟩ : ∃ h, 20 + ol = h := ⟨_, rfl⟩
              rw [hh] at hx12
              have i12 : (12 : Int) < (B.length : Int) := by omega
              have hw4 : IntKind.i64.wrap (4 * ((x.toNat : Int) / 16)) = (h : Int) := by rw [show (4 : Int) * ((x.toNat : Int) / 16) = (h : Int) by omega]; exact IntWalk.i64_in _ (by omega)
              have hw4' : (4 : Int) * ((x.toNat : Int) / 16) = (h : Int) := by omega
              by_cases h60 : 60 < h + U.length
              · have t60 : decide ((h : Int) + (U.length : Int) > 60) = true := decide_eq_true (by omega)
                have t60' : decide (60 < (h : Int) + (U.length : Int)) = true := decide_eq_true (by omega)
                go_wp2_with fail
                refine (works_any _).mono ?_
                rintro e w2 ⟨rfl, hb2⟩
                go_wp2_with fail
                go_ret
                exact ⟨rfl, below_to B3.out hb2⟩
              · have t60 : decide ((h : Int) + (U.length : Int) > 60) = false := decide_eq_false (by omega)
                have t60' : decide (60 < (h : Int) + (U.length : Int)) = false := decide_eq_false (by omega)
                go_wp2_with fail
                have hwq : IntKind.u8.wrap (((h : Int) + (U.length : Int)) * 4) = (((h + U.length) * 4 : Nat) : Int) := by rw [IntWalk.u8_in _ (by omega)]; omega
                have hwq1 : IntKind.u8.wrap ((h : Int) + (U.length : Int)) = (h : Int) + (U.length : Int) := IntWalk.u8_in _ (by omega)
                have hql : (h + U.length) * 4 < 256 := by omega
                obtain ⟨q, hq⟩ : ∃ q, (h + U.length) * 4 = q := ⟨_, rfl⟩
                rw [hq] at hwq hql
                have j12 : (12 : Int) ≤ (B.length : Int) := by omega
                have j16 : (16 : Int) ≤ (B.length : Int) := by omega
                have j20 : (20 : Int) ≤ (B.length : Int) := by omega
                have l12 : (B.take 12).length = 12 := by rw [List.length_take]; omega
                have l16 : ((B.drop 13).take 3).length = 3 := by rw [List.length_take, List.length_drop]; omega
                have l18 : ((B.drop 18).take 2).length = 2 := by rw [List.length_take, List.length_drop]; omega
                have l20 : (B.drop 20).length = B.length - 20 := by rw [List.length_drop]
                obtain ⟨Ba, hBa⟩ : ∃ l, B.take 12 = l := ⟨_, rfl⟩
                obtain ⟨Bb, hBb⟩ : ∃ l, (B.drop 13).take 3 = l := ⟨_, rfl⟩
                obtain ⟨Bc, hBc⟩ : ∃ l, (B.drop 18).take 2 = l := ⟨_, rfl⟩
                obtain ⟨Bd, hBd⟩ : ∃ l, B.drop 20 = l := ⟨_, rfl⟩
                rw [hBa] at l12
                rw [hBb] at l16
                rw [hBc] at l18
                rw [hBd] at l20
                have hq1 : ¬ 9223372036854775807 < 20 + U.length := by omega
                have hq3 : ¬ 9223372036854775807 < 20 + U.length + (B.length - 20) := by omega
                have hq2 : ¬ 9223372036854775807 < 12 + (3 + (2 + U.length + 1 + 1) + 1) + (B.length - 20) := by omega
                have hBdt : List.take (B.length - 20) Bd = Bd := List.take_of_length_le (by omega)
                refine wp_region_gho [8] (fun _ u w => ∃ b, u = .slice (some ⟨b, 0, none⟩) 1 1 ∧ w.heap[b]? = some (.cells #[.int .u8 (q : Int)] 5 (0, 0))) (by kernel_rfl) (by kernel_rfl) (by kernel_rfl) (fun _ u w w' ⟨b, h1, h2⟩ hb => ⟨b, h1, keepB hb h2⟩) ?_
                repeat (first | (refine wpGho_plain (by kernel_rfl) (by decide) (by rfl) (by rfl) (fun K hK => ?_); go_simp; refine hK _ ?_; clear hK K; try go_ints))
                refine wpGho_make (by kernel_rfl) (by decide) (by rfl) (by rfl) (by rfl) (fun K hK => ?_)
                go_simp
                refine ⟨fun x => ⟨below_new _, _, rfl, alloc_at _ _⟩, hK _ ?_⟩
                clear hK K
                refine wpGho_read (by decide) (by rfl) (fun K hK => ?_)
                refine ⟨.string (bs [UInt8.ofNat q]), fun g x hR => ?_, hK _ ?_⟩
                · obtain ⟨b8, hb8, hc8⟩ := hR 8 (by decide) (by kernel_rfl)
                  rw [show ∀ a, over _ [8] g a = Act.put a (some 111) (g 8) from fun _ => rfl, hb8]
                  have cv := conv_one_at q hql x.w' b8 (cell_at hc8 0)
                  clear hR
                  go_simp
                  done
                clear hK K
                simp only [Act.put, List.setIfInBounds_toArray, List.set_cons_zero, List.set_cons_succ]
                repeat (first | (refine wpGho_plain (by kernel_rfl) (by decide) (by rfl) (by rfl) (fun K hK => ?_); go_simp; refine hK _ ?_; clear hK K; try go_ints))
                refine wpGho_nil ?_
                intro g wM hwM hR
                obtain ⟨⟨w8, hM⟩, e8⟩ := hwM
                change wM = w8 at e8
                subst e8
                obtain ⟨b8, hb8, hc8⟩ := hR 8 (by decide)
                rw [show ∀ a, over _ [8] g a = Act.put a (some 111) (g 8) from fun _ => rfl, hb8]
                simp only [Act.put, List.setIfInBounds_toArray, List.set_cons_zero, List.set_cons_succ]
                have B4 := hid (below_to B3.out hM)
                have G4 := hid (keepB hM G3.out)
                clear hM hc8 hR B3 G3
                obtain ⟨T, hT⟩ : ∃ T, Ba ++ UInt8.ofNat q :: (Bb ++ 0 :: 0 :: (Bc ++ (U ++ Bd))) = T := ⟨_, rfl⟩
                rw [hT]
                have hTl : T.length = B.length + U.length := by rw [← hT]; simp only [List.length_append, List.length_cons]; omega
                have hrs := fun w => rsum_any T src dst w (by omega) hsr hds
                have hcl := csum_lt T src dst
                obtain ⟨c, hc⟩ : ∃ c, csum T src dst = c := ⟨_, rfl⟩
                rw [hc] at hrs hcl
                have HRS := hid hrs
                have HT := hid hT
                have HC := hid hc
                clear hq1 hq2 hq3 hBdt l12 l16 l18 l20 j12 j16 hrs hT hc hwq hwq1 tn hw4 hw4' i12 t60 t60'
                go_wp2_with fail
                refine (HRS.out _).mono ?_
                rintro e w10 ⟨rfl, hb10⟩
                have B5 := hid (below_to B4.out hb10)
                have G5 := hid (keepB hb10 G4.out)
                clear hb10 B4 G4 HRS
                go_wp2_with fail
                have hTB : 20 ≤ T.length := by omega
                have hT2 : T.length ≤ 3000 := by omega
                clear hTl
                have k16 : (16 : Int) ≤ (T.length : Int) := by omega
                have k18 : (18 : Int) ≤ (T.length : Int) := by omega
                have hbT : (bs T).size = T.length := rfl
                have m16 : (T.take 16).length = 16 := by rw [List.length_take]; omega
                have m18 : (T.drop 18).length = T.length - 18 := by rw [List.length_drop]
                have hw8 : IntKind.u8.wrap ((c : Int) / 256) = ((c / 256 : Nat) : Int) := by rw [IntWalk.u8_in _ (by omega)]; omega
                have hw9 : IntKind.u8.wrap (c : Int) = ((c % 256 : Nat) : Int) := by show (c : Int) % 256 = _; omega
                have hTt : List.take (T.length - 18) (T.drop 18) = T.drop 18 := List.take_of_length_le (by omega)
                obtain ⟨Ta, hTa⟩ : ∃ l, T.take 16 = l := ⟨_, rfl⟩
                obtain ⟨Tb, hTb⟩ : ∃ l, T.drop 18 = l := ⟨_, rfl⟩
                rw [hTa] at m16
                rw [hTb] at m18 hTt
                have hq1 : ¬ 9223372036854775807 < 16 + 2 + (T.length - 18) := by omega
                obtain ⟨c1, hc1⟩ : ∃ d, c / 256 = d := ⟨_, rfl⟩
                obtain ⟨c2, hc2⟩ : ∃ d, c % 256 = d := ⟨_, rfl⟩
                rw [hc1] at hw8
                rw [hc2] at hw9
                have hc1l : c1 < 256 := by omega
                have hc2l : c2 < 256 := by omega
                refine wp_region_gho [7] (fun _ u w => ∃ b, u = .slice (some ⟨b, 0, none⟩) 2 2 ∧ w.heap[b]? = some (.cells #[.int .u8 (c1 : Int), .int .u8 (c2 : Int)] 5 (0, 0))) (by kernel_rfl) (by kernel_rfl) (by kernel_rfl) (fun _ u w w' ⟨b, h1, h2⟩ hb => ⟨b, h1, keepB hb h2⟩) ?_
                repeat (first | (refine wpGho_plain (by kernel_rfl) (by decide) (by rfl) (by rfl) (fun K hK => ?_); go_simp; refine hK _ ?_; clear hK K; try go_ints))
                refine wpGho_make (by kernel_rfl) (by decide) (by rfl) (by rfl) (by rfl) (fun K hK => ?_)
                go_simp
                refine ⟨fun x => ⟨below_new _, _, rfl, alloc_at _ _⟩, hK _ ?_⟩
                clear hK K
                refine wpGho_read (by decide) (by rfl) (fun K hK => ?_)
                refine ⟨.string (bs [UInt8.ofNat c1, UInt8.ofNat c2]), fun g x hR => ?_, hK _ ?_⟩
                · obtain ⟨b8, hb8, hc8⟩ := hR 7 (by decide) (by kernel_rfl)
                  rw [show ∀ a, over _ [7] g a = Act.put a (some 137) (g 7) from fun _ => rfl, hb8]
                  have cv := conv_two c1 c2 hc1l hc2l x.w' b8 (cell_at hc8 0) (cell_at hc8 1)
                  clear hR
                  go_simp
                  done
                clear hK K
                simp only [Act.put, List.setIfInBounds_toArray, List.set_cons_zero, List.set_cons_succ]
                repeat (first | (refine wpGho_plain (by kernel_rfl) (by decide) (by rfl) (by rfl) (fun K hK => ?_); go_simp; refine hK _ ?_; clear hK K; try go_ints))
                refine wpGho_nil ?_
                intro g wM hwM hR
                obtain ⟨⟨w8, hM⟩, e8⟩ := hwM
                change wM = w8 at e8
                subst e8
                obtain ⟨b8, hb8, hc8⟩ := hR 7 (by decide)
                rw [show ∀ a, over _ [7] g a = Act.put a (some 137) (g 7) from fun _ => rfl, hb8]
                simp only [Act.put, List.setIfInBounds_toArray, List.set_cons_zero, List.set_cons_succ]
                have B6 := hid (below_to B5.out hM)
                have G6 := hid (keepB hM G5.out)
                clear hM hc8 hR B5 G5
                have hT2e : T.take 16 ++ be 2 (csum T src dst) ++ T.drop 18 = Ta ++ UInt8.ofNat c1 :: UInt8.ofNat c2 :: Tb := by
                  have e1 : c / 256 % 256 = c1 := by omega
                  rw [hTa, hTb, HC.out, be_two_of, e1, hc2]; simp
                have hde := HPUT.out trivial m j hm6 U (by rw [HPE.out, HU.out]) hU4 (by omega) T (by rw [hBa, hBb, hBc, hBd, ← HT.out, hh, hq]; simp)
                rw [hT2e] at hde
                have hdd := fun w => decode_any (Ta ++ UInt8.ofNat c1 :: UInt8.ofNat c2 :: Tb) src dst w (by simp only [List.length_append, List.length_cons]; omega) hsr hds
                rw [hde, HTOLD.out] at hdd
                have HD := hid hdd
                clear hdd hde hT2e hq1 hTt m16 m18 hc1 hc2 hw8 hw9 hTa hTb hBa hBb hBc hBd hq hh hx12 hx HPUT HTOLD k16 k18 HPE HU HT HC
                go_wp2_with fail
                refine (HD.out _).mono ?_
                rintro e w11 ⟨rfl, hb11⟩
                have G7 := alloc_old (o' := .cells #[.int .u16 (gs : Int), .int .u16 (gd : Int), .int .u32 (seq : Int), .int .u32 (ack : Int), .int .u8 (fo : Int), .int .u16 (wnd : Int), .int .u16 (mss : Int), .bool has, .int .u8 (scale : Int), .string (bs data)] 25) (keepB hb11 G6.out)
                have X7 := alloc_at w11 (.cells #[.int .u16 (gs : Int), .int .u16 (gd : Int), .int .u32 (seq : Int), .int .u32 (ack : Int), .int .u8 (fo : Int), .int .u16 (wnd : Int), .int .u16 (mss : Int), .bool has, .int .u8 (scale : Int), .string (bs data)] 25)
                have B7 := hid (below_alloc (below_to B6.out hb11) (.cells #[.int .u16 (gs : Int), .int .u16 (gd : Int), .int .u32 (seq : Int), .int .u32 (ack : Int), .int .u8 (fo : Int), .int .u16 (wnd : Int), .int .u16 (mss : Int), .bool has, .int .u8 (scale : Int), .string (bs data)] 25))
                obtain ⟨c0, c1', c2', c3, c4, c5, c6, c7, c8, c9⟩ := ten_cells G7
                obtain ⟨d0, d1, d2, d3, d4, d5, d6, d7, d8, d9⟩ := ten_cells X7
                clear hb11 G6 B6 G7 X7 HD
                go_wp2_with fail
                refine (works_any _).mono ?_
                rintro e w12 ⟨rfl, hb12⟩
                go_wp2_with fail
                go_ret
                exact ⟨rfl, below_to B7.out hb12⟩
            · have tn : ((U.length : Int) % 4 != 0) = true := by rw [bne_iff_ne]; omega
              have hq : ¬ 9223372036854775807 < U.length + 1 := by omega
              go_wp2_with fail
              exact ⟨⟨j + 1, by omega, fun h => by omega, by rw [HAP.out, HU.out], RC.out⟩, by show 200 - (U ++ [1]).length < 200 - U.length; rw [List.length_append]; simp; omega⟩
    · rw [hbad rfl] at henc
      have HE := hid henc
      clear henc hbad hok hput hblen holen hx12 HA
      go_enter Try.func5, Try.ntmps5
      go_wp2_with fail
      refine (HE.out _).mono ?_
      rintro e w1 ⟨rfl, hb1⟩
      have B1 := hid (below_to (below_new _) hb1)
      clear hb1
      go_wp2_with fail
      refine (works_any _).mono ?_
      rintro e w2 ⟨rfl, hb2⟩
      go_wp2_with fail
      go_ret
      exact ⟨rfl, below_to B1.out hb2⟩

end Go.Proofs.Ytidkbphdihlbaaa
