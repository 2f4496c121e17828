/- The law FlowWhole: the walk. -/
import Derived.Test.YtkmkgfgppblleaaFlowL3
import Derived.Test.YtkmkgfgppblleaaFlowV
import Derived.Test.YtkmkgfgppblleaaOBY
import Derived.Deep.OwnRows
namespace Go.Proofs.Ytkmkgfgppblleaa
open Go.RowKit FL Go.Deep

/-- A row of bools. -/
def boolsV (l : List Bool) : Array Value := (l.map Value.bool).toArray
theorem boolsV_size (l : List Bool) : (boolsV l).size = l.length := by simp [boolsV]
theorem boolsV_get {l : List Bool} {j : Nat} (h : j < l.length) : (boolsV l)[j]? = some (.bool (l.getD j false)) := by
  unfold boolsV
  simp [h]
theorem boolsV_set (l : List Bool) (j : Nat) (b : Bool) : (boolsV l).setIfInBounds j (.bool b) = boolsV (l.set j b) := by
  unfold boolsV
  rw [List.setIfInBounds_toArray, List.map_set]
theorem boolsV_made (n : Nat) : madeCells #[.bool false] n = boolsV (List.replicate n false) := by
  refine Array.ext (by simp [size_madeCells, boolsV]) fun j h1 h2 => ?_
  simp [madeCells, boolsV, Nat.mod_one]
theorem info_bool : (Try.prog.info? 4).map (fun i => (i.zero, i.size, i.bytes)) = some (some (.bool false), 1, 1) := by kernel_rfl

theorem extract_list (s : ByteArray) (a b : Nat) : (s.extract a b).data.toList = (s.data.toList.drop a).take (b - a) := by
  simp [ByteArray.data_extract, Array.toList_extract, List.extract]
theorem append_list (s t : ByteArray) : (s ++ t).data.toList = s.data.toList ++ t.data.toList := by simp

section
variable {W w : World} {P M : Nat} {s : FS}
/-- A cell of what stands beside it is written. -/
theorem QBeh.write {C : Nat} {c : Array Value} {T : TypeId} (h : QBeh W w P M s [(C, .cells c T (0, 0))]) (hC : W.heap.size ≤ C) (k : Nat) (v : Value) : QBeh W (w.setCell ⟨C, k, none⟩ v) P M s [(C, .cells (c.setIfInBounds k v) T (0, 0))] := by
  obtain ⟨rv, en, h1, h2, h3, h4, h5⟩ := h
  have h6 := h5 _ (List.mem_cons_self ..)
  have ho : Out (fun j => j = C) w (w.setCell ⟨C, k, none⟩ v) := Out.setCell (ex := fun j => j = C) (Out.refl (fun j => j = C) w) (p := ⟨C, k, none⟩) (.inl rfl) v
  refine ⟨rv, en, h1.out ho (fun k hk e => h6.2 (e ▸ hk)), h2, h3, ?_, fun p hp => ?_⟩
  · exact h4.trans (ho.below (fun k e => by omega) h4.size)
  · obtain rfl : p = (C, .cells (c.setIfInBounds k v) T (0, 0)) := by simpa using hp
    exact ⟨hget_setCell h6.1 k v, h6.2⟩
end

/-- The pieces in memory. -/
def PiecesAt (w : World) (a : Option Addr) (len : Nat) (f : Nat → Nat × Nat) : Prop :=
  len = 0 ∨ ∃ b off, a = some ⟨b, off, none⟩ ∧ b < w.heap.size ∧ ∀ k, k < len → w.cell? ⟨b, off + k * 2, none⟩ = some (.int .u16 ((f k).1 : Int)) ∧ w.cell? ⟨b, off + k * 2 + 1, none⟩ = some (.int .u16 ((f k).2 : Int)) ∧ (f k).1 < 65536 ∧ (f k).2 < 65536
section
variable {H : Type} {enc : TypeId × Value → H} {w : World} {base : Nat} {held : Bool}
theorem pieces_open {fuel : Nat} {a : Option Addr} {len cap : Nat} {x : DataW H × List MemPlace} (h : DataW.trod enc Try.prog w base (fun _ => true) held fuel 23 [.slice a len cap] = some x) :
    len ≤ maxLen ∧ ∃ f, PiecesAt w a len f := by
  obtain ⟨hm, h0 | ⟨b, off, rfl, hb, hc⟩⟩ := slice_fields_at Try.underlying23 Try.underlying33 (by kernel_rfl) (by kernel_rfl) (by decide) h
  · exact ⟨hm, fun _ => (0, 0), .inl h0⟩
  · have hx : ∀ k, k < len → ∃ t : Nat × Nat, w.cell? ⟨b, off + k * 2, none⟩ = some (.int .u16 (t.1 : Int)) ∧ w.cell? ⟨b, off + k * 2 + 1, none⟩ = some (.int .u16 (t.2 : Int)) ∧ t.1 < 65536 ∧ t.2 < 65536 := fun k hk => by
      obtain ⟨n, hf⟩ := hc k hk
      obtain ⟨v0, y0, c0, t0⟩ := hf 0 _ rfl
      obtain ⟨v1, y1, c1, t1⟩ := hf 1 _ rfl
      obtain ⟨n0, e0, _, f0⟩ := DataW.trod_int Try.underlying31 t0
      obtain ⟨n1, e1, _, f1⟩ := DataW.trod_int Try.underlying31 t1
      simp only [List.cons.injEq, and_true] at e0 e1
      subst e0 e1
      have b0 := bounds_u16 f0
      have b1 := bounds_u16 f1
      obtain ⟨m0, rfl⟩ := Int.eq_ofNat_of_zero_le b0.1
      obtain ⟨m1, rfl⟩ := Int.eq_ofNat_of_zero_le b1.1
      exact ⟨(m0, m1), c0, c1, by omega, by omega⟩
    refine ⟨hm, fun k => if hk : k < len then Classical.choose (hx k hk) else (0, 0), .inr ⟨b, off, rfl, hb, fun k hk => ?_⟩⟩
    have := Classical.choose_spec (hx k hk)
    simp only [hk, dif_pos]
    exact this
end

/-- The loop's state. -/
def WholeRel (W : World) (P M C : Nat) (T : List UInt8) (x len : Nat) (told i : Value) (wr : World) : Prop :=
  ∃ k s tb came p, k ≤ len ∧ i = .int .i64 ((k : Nat) : Int) ∧ told = .string tb ∧ QBeh W wr P M s [(C, .cells (boolsV came) 4 (0, 0))] ∧ Wh T x s tb.data.toList came p ∧ Inv s
/-- The inner loop's. -/
def MarkRel (W : World) (P M C : Nat) (s : FS) (came : List Bool) (a n : Nat) (i : Value) (wr : World) : Prop :=
  ∃ j, a ≤ j ∧ j ≤ a + n ∧ i = .int .i64 ((j : Nat) : Int) ∧ QBeh W wr P M s [(C, .cells (boolsV (FL.mark came a (j - a))) 4 (0, 0))]

set_option maxHeartbeats 4000000 in
set_option maxRecDepth 100000 in
theorem whole_far (x : Int) (t : ByteArray) (a : Option Addr) (len cap : Nat) (ra : Option Addr) (rlen rcap : Nat) (W : World) (h : 1000 < t.size ∨ 100 < len ∨ 100 < rlen) :
    Calls Try.prog 3 #[.int .u32 x, .string t, .slice a len cap, .slice ra rlen rcap] W fun e w' => e = .returned (.bool true) ∧ Below W.heap.size W w' := by
  by_cases h1 : 1000 < t.size
  · have d1 : decide (1000 < (t.size : Int)) = true := decide_eq_true (by omega)
    go_enter Try.func3, Try.ntmps3
    go_wp2_with fail
    refine (works_any W).mono ?_
    rintro e w1 ⟨rfl, hb⟩
    go_wp2_with fail
    go_ret
    exact ⟨rfl, hb⟩
  · have d1 : decide (1000 < (t.size : Int)) = false := decide_eq_false (by omega)
    by_cases h2 : 100 < len
    · have d2 : decide (100 < (len : Int)) = true := decide_eq_true (by omega)
      go_enter Try.func3, Try.ntmps3
      go_wp2_with fail
      refine (works_any W).mono ?_
      rintro e w1 ⟨rfl, hb⟩
      go_wp2_with fail
      go_ret
      exact ⟨rfl, hb⟩
    · have d2 : decide (100 < (len : Int)) = false := decide_eq_false (by omega)
      have d3 : decide (100 < (rlen : Int)) = true := decide_eq_true (by omega)
      go_enter Try.func3, Try.ntmps3
      go_wp2_with fail
      refine (works_any W).mono ?_
      rintro e w1 ⟨rfl, hb⟩
      go_wp2_with fail
      go_ret
      exact ⟨rfl, hb⟩

set_option maxHeartbeats 8000000 in
set_option maxRecDepth 100000 in
theorem whole_near (x : Nat) (hx : x < 4294967296) (t : ByteArray) (ht : t.size ≤ 1000) (a : Option Addr) (len cap : Nat) (f : Nat → Nat × Nat) (ra : Option Addr) (rlen rcap : Nat) (W : World) (hlen : len ≤ 100) (hrlen : rlen ≤ 100) (hs : PiecesAt W a len f)
    (ks : List UInt8) (hks : rlen = 0 ∨ ∃ b off, ra = some ⟨b, off, none⟩ ∧ b < W.heap.size ∧ ∀ j, j < rlen → W.cell? ⟨b, off + j, none⟩ = some (.int .u8 ((ks.getD j 0).toNat : Int))) :
    Calls Try.prog 3 #[.int .u32 (x : Int), .string t, .slice a len cap, .slice ra rlen rcap] W fun e w' => e = .returned (.bool true) ∧ Below W.heap.size W w' := by
  have d1 : decide (1000 < (t.size : Int)) = false := decide_eq_false (by omega)
  have d2 : decide (100 < (len : Int)) = false := decide_eq_false (by omega)
  have d3 : decide (100 < (rlen : Int)) = false := decide_eq_false (by omega)
  have HS := hid hs
  have HK := hid hks
  clear hs hks
  obtain ⟨T, hT⟩ : ∃ T, t.data.toList = T := ⟨_, rfl⟩
  have hTl : T.length = t.size := by rw [← hT]; simp
  obtain ⟨L, hL⟩ : ∃ L, t.size = L := ⟨_, rfl⟩
  rw [hL] at ht hTl d1
  have hnew := new_beh (E := []) (Below.refl _ W) x 1024 hx (by omega) (fun p hp => by cases hp)
  have hmk := run_make_row' (P := Try.prog) 30 4 (.bool false) 1 Try.underlying30 info_bool rfl .i64 .i64 (L + 1) (by omega) (by omega)
  rw [boolsV_made, Int.natCast_add, Int.natCast_one] at hmk
  go_enter Try.func3, Try.ntmps3
  go_wp2_with fail
  refine hnew.mono ?_
  rintro e w1 ⟨rfl, q⟩
  have Q := hid q
  clear q hnew
  go_wp2_with fail
  have hCW : W.heap.size ≤ w1.heap.size := Q.out.old.size
  have q2 := Q.out.make (.cells (boolsV (List.replicate (L + 1) false)) 4) (alloc_at _ _)
  generalize w1.alloc (.cells (boolsV (List.replicate (L + 1) false)) 4) = w2 at *
  generalize w1.heap.size = C at *
  have hwh := wh_new T x hx
  rw [hTl] at hwh
  clear hmk Q
  go_loopw [12, 13] (fun told i wr => WholeRel W (W.heap.size + 1) W.heap.size C T x len told i wr) (fun _ i _ => (len - intOf i).toNat)
  case atStart => exact ⟨0, _, _, _, 0, by omega, rfl, rfl, q2, hwh, q2.inv⟩
  case round =>
    clear q2 hwh
    obtain ⟨k, s, tb, came, p, hk, rfl, rfl, q, hwh, hI⟩ := hrel
    have Q := hid q
    have WH := hid hwh
    have HI := hid hI
    have hcl := hwh.len
    clear q hwh hI
    by_cases hkl : k < len
    · have dk : decide ((k : Int) < len) = true := decide_eq_true (by omega)
      obtain h0 | ⟨b, off, rfl, hbW, hcs⟩ := HS.out
      · omega
      obtain ⟨c0, c1, hp0, hp1⟩ := hcs k hkl
      have hcell : ∀ j, wr.cell? ⟨b, j, none⟩ = W.cell? ⟨b, j, none⟩ := fun j => Q.out.old.cell (p := ⟨b, j, none⟩) hbW
      rw [← hcell] at c0 c1
      have hi0 : 0 ≤ (k : Int) := by omega
      have hi1 : (k : Int) < len := by omega
      clear hcs hcell
      obtain ⟨pa, hpa⟩ : ∃ pa, (f k).1 = pa := ⟨_, rfl⟩
      obtain ⟨pl, hpl⟩ : ∃ pl, (f k).2 = pl := ⟨_, rfl⟩
      rw [hpa] at c0 hp0
      rw [hpl] at c1 hp1
      have hAt : (pa : Int) % ((L : Int) + 1) = ((pa % (L + 1) : Nat) : Int) := (Int.natCast_emod pa (L + 1)).symm
      have hAl : pa % (L + 1) ≤ L := by have := Nat.mod_lt pa (show 0 < L + 1 by omega); omega
      generalize pa % (L + 1) = A at *
      have hNn : min ((pl : Int) % 200) ((L : Int) - A) = ((min (pl % 200) (L - A) : Nat) : Int) := by omega
      have hNl : A + min (pl % 200) (L - A) ≤ L := by omega
      generalize min (pl % 200) (L - A) = N at *
      have hfin : (((A : Int) + N) == (L : Int)) = decide (A + N = L) := by
        by_cases h : A + N = L
        · rw [decide_eq_true h, beq_iff_eq]; omega
        · rw [decide_eq_false h, beq_eq_false_iff_ne]; omega
      obtain ⟨fb, hfb⟩ : ∃ fb, decide (A + N = L) = fb := ⟨_, rfl⟩
      rw [hfb] at hfin
      have hX : ((x : Int) + A) % 4294967296 = (((x + A) % 4294967296 : Nat) : Int) := by omega
      have hXl : (x + A) % 4294967296 < 4294967296 := Nat.mod_lt _ (by decide)
      obtain ⟨XA, hXA⟩ : ∃ XA, (x + A) % 4294967296 = XA := ⟨_, rfl⟩
      rw [hXA] at hX hXl
      obtain ⟨ed, hed⟩ : ∃ ed, s.ended = ed := ⟨_, rfl⟩
      have HED := hid hed
      have HF := hid hfb
      have HXA := hid hXA
      clear hfb hXA hed hpa hpl
      go_wp2_with fail
      refine (ended_beh Q.out).mono ?_
      rw [HED.out]
      rintro e w3 ⟨rfl, hd⟩
      replace Q := hid (Q.out.dr hd)
      clear hd c0 c1
      go_wp2_with fail
      obtain ⟨dat, hdat⟩ : ∃ dat, t.extract A (A + N) = dat := ⟨_, rfl⟩
      have hdl : dat.data.toList = (T.drop A).take N := by rw [← hdat, extract_list, hT, Nat.add_sub_cancel_left]
      rw [hdat]
      refine (put_beh Q.out XA hXl dat fb).mono ?_
      rw [hdl]
      rintro e w4 ⟨rfl, q⟩
      obtain ⟨p', hwh⟩ := wh_put WH.out HI.out (by omega) A N (by omega)
      rw [hTl, HF.out, HXA.out] at hwh
      have hnoend : ed = true → (put s XA ((T.drop A).take N) fb).ended = true := fun he => by
        rw [put_no (by rw [HED.out, he]; rfl), HED.out, he]
      have HNE := hid hnoend
      obtain ⟨s1, hs1⟩ : ∃ s1, put s XA ((T.drop A).take N) fb = s1 := ⟨_, rfl⟩
      rw [hs1] at q hwh HNE
      have HI1 := hid q.inv
      have WH1 := hid hwh
      replace Q := hid q
      have hcl' : came.length = L + 1 := by rw [hcl, hTl]
      clear q hwh hnoend hdat hdl hs1 HI
      go_wp2_with fail
      go_loopw [18] (fun i wr => MarkRel W (W.heap.size + 1) W.heap.size C s1 came A N i wr) (fun i _ => ((A : Int) + N - intOf i).toNat)
      case atStart => exact ⟨A, Nat.le_refl _, by omega, rfl, by rw [Nat.sub_self, FL.mark_zero]; exact Q.out⟩
      case round =>
        clear Q
        obtain ⟨J, hJ1, hJ2, rfl, q⟩ := hrel
        have Q := hid q
        clear q
        have hml : (FL.mark came A (J - A)).length = L + 1 := by rw [FL.mark_len]; exact hcl'
        have gC := Q.out.get (List.mem_cons_self ..)
        have fC := free_at gC
        by_cases hJN : J < A + N
        · have dj : decide ((J : Int) < (A : Int) + N) = true := decide_eq_true (by omega)
          have cC : wr.cell? ⟨C, J, none⟩ = some (.bool ((FL.mark came A (J - A)).getD J false)) := by rw [cell_at gC, boolsV_get (by omega)]
          have hJ0 : 0 ≤ (J : Int) := by omega
          have hJ3 : (J : Int) < (L : Int) + 1 := by omega
          clear gC
          go_wp2_with fail
          refine ⟨⟨J + 1, by omega, by omega, by simp, ?_⟩, by simp only [intOf]; omega⟩
          have q := Q.out.write hCW J (.bool true)
          rw [boolsV_set] at q
          have e : (FL.mark came A (J - A)).set J true = FL.mark came A (J + 1 - A) := by
            have := FL.mark_succ came A (J - A)
            rw [show A + (J - A) = J by omega, show J - A + 1 = J + 1 - A by omega] at this
            exact this
          rw [e] at q
          exact q
        · have dj : decide ((J : Int) < (A : Int) + N) = false := decide_eq_false (by omega)
          have hJe : J - A = N := by omega
          rw [hJe] at gC hml Q
          have cC : wr.cell? ⟨C, L, none⟩ = some (.bool ((FL.mark came A N).getD L false)) := by rw [cell_at gC, boolsV_get (by omega)]
          obtain ⟨mb, hmb⟩ : ∃ mb, (FL.mark came A N).getD L false = mb := ⟨_, rfl⟩
          rw [hmb] at cC
          clear gC
          have q := Q.out.write hCW L (.bool (mb || fb))
          rw [boolsV_set] at q
          have hcm : (FL.mark came A N).set L (mb || fb) = came' came A N L := by unfold came'; rw [hmb, HF.out]
          rw [hcm] at q
          have Q' := hid q
          have QO := hid Q.out.old
          clear q Q hcm hmb hJe
          cases mb
          · simp only [Bool.false_or, Bool.true_or] at Q'
            by_cases hkr : k < rlen
            · have dr : decide ((k : Int) < rlen) = true := decide_eq_true (by omega)
              obtain h0 | ⟨b2, off2, rfl, hb2, hc2⟩ := HK.out
              · omega
              have c2 := hc2 k hkr
              rw [← QO.out.cell (p := ⟨b2, off2 + k, none⟩) hb2] at c2
              have hi2 : (k : Int) < rlen := by omega
              have hbC : (b2 = C) = False := eq_false (by omega)
              have hCb : (C = b2) = False := eq_false (by omega)
              obtain ⟨cc, hcc⟩ : ∃ cc, ks.getD k 0 = cc := ⟨_, rfl⟩
              rw [hcc] at c2
              have hcl2 := cc.toNat_lt
              clear hc2 hcc
              go_wp2_with fail
              refine (read_beh Q'.out (cc.toNat : Int)).mono ?_
              rintro e w6 ⟨rfl, q6⟩
              have wh6 := wh_read WH1.out (cc.toNat : Int)
              have hi6 := inv_read HI1.out (cc.toNat : Int)
              obtain ⟨RD, hRD⟩ : ∃ RD, (⟨(s1.ready.take (readN s1 (cc.toNat : Int))).toArray⟩ : ByteArray) = RD := ⟨_, rfl⟩
              rw [hRD]
              have happ : (tb ++ RD).data.toList = tb.data.toList ++ s1.ready.take (readN s1 (cc.toNat : Int)) := by rw [append_list, ← hRD]
              rw [← happ] at wh6
              have hszz : tb.size ≤ 1000 ∧ RD.size ≤ 1000 := by
                have h1 := wh6.txt
                have h2 := congrArg List.length h1
                rw [List.length_append, List.length_take, append_list, List.length_append] at h2
                have h3 : tb.data.toList.length = tb.size := by simp
                have h4 : RD.data.toList.length = RD.size := by simp
                omega
              obtain ⟨hz1, hz2⟩ := hszz
              have Q6 := hid q6
              have WH6 := hid wh6
              have HI6 := hid hi6
              clear q6 wh6 hi6 hRD happ c2
              cases ed
              · go_wp2_with fail
                exact ⟨⟨k + 1, _, _, _, _, by omega, by simp, rfl, Q6.out, WH6.out, HI6.out⟩, by simp only [intOf]; omega⟩
              · have hen := HNE.out rfl
                go_wp2_with fail
                refine (ended_beh (Q6.out)).mono ?_
                rw [show (FL.read s1 (cc.toNat : Int)).ended = true from hen]
                rintro e w7 ⟨rfl, hd⟩
                have q7 := QBeh.dr (Q6.out) hd
                clear hd
                go_wp2_with fail
                exact ⟨⟨k + 1, _, _, _, _, by omega, by simp, rfl, q7, WH6.out, HI6.out⟩, by simp only [intOf]; omega⟩
            · have dr : decide ((k : Int) < rlen) = false := decide_eq_false (by omega)
              cases ed
              · go_wp2_with fail
                exact ⟨⟨k + 1, _, _, _, _, by omega, by simp, rfl, Q'.out, WH1.out, HI1.out⟩, by simp only [intOf]; omega⟩
              · have hen := HNE.out rfl
                go_wp2_with fail
                refine (ended_beh (Q'.out)).mono ?_
                rw [show s1.ended = true from hen]
                rintro e w7 ⟨rfl, hd⟩
                have q7 := QBeh.dr (Q'.out) hd
                clear hd
                go_wp2_with fail
                exact ⟨⟨k + 1, _, _, _, _, by omega, by simp, rfl, q7, WH1.out, HI1.out⟩, by simp only [intOf]; omega⟩
          · simp only [Bool.false_or, Bool.true_or] at Q'
            by_cases hkr : k < rlen
            · have dr : decide ((k : Int) < rlen) = true := decide_eq_true (by omega)
              obtain h0 | ⟨b2, off2, rfl, hb2, hc2⟩ := HK.out
              · omega
              have c2 := hc2 k hkr
              rw [← QO.out.cell (p := ⟨b2, off2 + k, none⟩) hb2] at c2
              have hi2 : (k : Int) < rlen := by omega
              have hbC : (b2 = C) = False := eq_false (by omega)
              have hCb : (C = b2) = False := eq_false (by omega)
              obtain ⟨cc, hcc⟩ : ∃ cc, ks.getD k 0 = cc := ⟨_, rfl⟩
              rw [hcc] at c2
              have hcl2 := cc.toNat_lt
              clear hc2 hcc
              go_wp2_with fail
              refine (read_beh Q'.out (cc.toNat : Int)).mono ?_
              rintro e w6 ⟨rfl, q6⟩
              have wh6 := wh_read WH1.out (cc.toNat : Int)
              have hi6 := inv_read HI1.out (cc.toNat : Int)
              obtain ⟨RD, hRD⟩ : ∃ RD, (⟨(s1.ready.take (readN s1 (cc.toNat : Int))).toArray⟩ : ByteArray) = RD := ⟨_, rfl⟩
              rw [hRD]
              have happ : (tb ++ RD).data.toList = tb.data.toList ++ s1.ready.take (readN s1 (cc.toNat : Int)) := by rw [append_list, ← hRD]
              rw [← happ] at wh6
              have hszz : tb.size ≤ 1000 ∧ RD.size ≤ 1000 := by
                have h1 := wh6.txt
                have h2 := congrArg List.length h1
                rw [List.length_append, List.length_take, append_list, List.length_append] at h2
                have h3 : tb.data.toList.length = tb.size := by simp
                have h4 : RD.data.toList.length = RD.size := by simp
                omega
              obtain ⟨hz1, hz2⟩ := hszz
              have Q6 := hid q6
              have WH6 := hid wh6
              have HI6 := hid hi6
              clear q6 wh6 hi6 hRD happ c2
              cases ed
              · go_wp2_with fail
                exact ⟨⟨k + 1, _, _, _, _, by omega, by simp, rfl, Q6.out, WH6.out, HI6.out⟩, by simp only [intOf]; omega⟩
              · have hen := HNE.out rfl
                go_wp2_with fail
                refine (ended_beh (Q6.out)).mono ?_
                rw [show (FL.read s1 (cc.toNat : Int)).ended = true from hen]
                rintro e w7 ⟨rfl, hd⟩
                have q7 := QBeh.dr (Q6.out) hd
                clear hd
                go_wp2_with fail
                exact ⟨⟨k + 1, _, _, _, _, by omega, by simp, rfl, q7, WH6.out, HI6.out⟩, by simp only [intOf]; omega⟩
            · have dr : decide ((k : Int) < rlen) = false := decide_eq_false (by omega)
              cases ed
              · go_wp2_with fail
                exact ⟨⟨k + 1, _, _, _, _, by omega, by simp, rfl, Q'.out, WH1.out, HI1.out⟩, by simp only [intOf]; omega⟩
              · have hen := HNE.out rfl
                go_wp2_with fail
                refine (ended_beh (Q'.out)).mono ?_
                rw [show s1.ended = true from hen]
                rintro e w7 ⟨rfl, hd⟩
                have q7 := QBeh.dr (Q'.out) hd
                clear hd
                go_wp2_with fail
                exact ⟨⟨k + 1, _, _, _, _, by omega, by simp, rfl, q7, WH1.out, HI1.out⟩, by simp only [intOf]; omega⟩
    · have dk : decide ((k : Int) < len) = false := decide_eq_false (by omega)
      go_wp2_with fail
      refine (read_beh Q.out 2000).mono ?_
      rintro e w8 ⟨rfl, q8⟩
      obtain ⟨RD, hRD⟩ : ∃ RD, (⟨(s.ready.take (readN s 2000)).toArray⟩ : ByteArray) = RD := ⟨_, rfl⟩
      rw [hRD]
      have hszz : tb.size ≤ 1000 ∧ RD.size ≤ 1000 := by
        have h1 := WH.out.txt
        have h2 := congrArg List.length h1
        rw [List.length_append, List.length_take] at h2
        have h3 : tb.data.toList.length = tb.size := by simp
        have h4 : RD.data.toList.length = RD.size := by simp
        rw [← hRD] at h4
        have h5 : (s.ready.take (readN s 2000)).length ≤ s.ready.length := by rw [List.length_take]; omega
        simp only [] at h4
        rw [hRD] at h4
        omega
      obtain ⟨hz1, hz2⟩ := hszz
      have Q8 := hid q8
      have HRD := hid hRD
      have gC := q8.get (List.mem_cons_self ..)
      have hcl2 : came.length = L + 1 := by rw [hcl, hTl]
      clear q8 Q hRD
      go_wp2_with fail
      go_loopw [19] (fun i wr => ∃ n, n ≤ L ∧ i = .int .i64 ((n : Nat) : Int) ∧ Hid (∀ j, j < n → came.getD j false = true) ∧ wr = w8) (fun i _ => ((L : Int) - intOf i).toNat)
      case atStart => exact ⟨0, Nat.zero_le _, rfl, hid (fun j hj => absurd hj (Nat.not_lt_zero _)), rfl⟩
      case round =>
        obtain ⟨n, hnL, rfl, HALL, rfl⟩ := hrel
        by_cases hn : n < L
        · have dn : decide ((n : Int) < L) = true := decide_eq_true (by omega)
          have hn0 : 0 ≤ (n : Int) := by omega
          have hn1 : (n : Int) < (L : Int) + 1 := by omega
          obtain ⟨cb, hcb⟩ : ∃ cb, came.getD n false = cb := ⟨_, rfl⟩
          have cC : wr.cell? ⟨C, n, none⟩ = some (.bool cb) := by rw [cell_at gC, boolsV_get (by omega), hcb]
          have HCB := hid hcb
          clear hcb
          cases cb
          · have hnl : ((n : Int) == (L : Int)) = false := by rw [beq_eq_false_iff_ne]; omega
            have dnn : decide (n = L) = false := decide_eq_false (by omega)
            have hlc : (decide (n = L) && came.getD L false) = false := by rw [dnn]; rfl
            have hw := wh_end (n := n) WH.out (by omega) (by omega) HALL.out (fun _ => HCB.out)
            rw [hTl, hlc] at hw
            obtain ⟨w1', w2', w3'⟩ := hw
            have htx : tb ++ RD = t.extract 0 n := by
              apply ByteArray.ext
              apply Array.ext'
              rw [append_list, extract_list, hT, ← HRD.out]
              simpa using w1'
            have htx2 : (tb ++ RD == t.extract 0 n) = true := (MapKept.bytes_beq _ _).2 htx
            have htx3 : ((tb ++ RD).toList == (t.extract 0 n).toList) = true := by rw [htx, beq_self_eq_true]
            have hwant : ((x : Int) + (n : Nat)) % 4294967296 = (((x + n) % 4294967296 : Nat) : Int) := by omega
            obtain ⟨Wt, hWt⟩ : ∃ Wt, (x + n) % 4294967296 = Wt := ⟨_, rfl⟩
            rw [hWt] at hwant w3'
            obtain ⟨Vt, hVt⟩ : ∃ Vt, (Wt + 1) % 4294967296 = Vt := ⟨_, rfl⟩
            rw [hVt] at w3'
            have hw2 : ((Wt : Int) + 1) % 4294967296 = (Vt : Int) := by omega
            clear hWt hVt
            have hNX := next_beh Q8.out
            have hEN := ended_beh Q8.out
            rw [show (FL.read s 2000).ended = _ from w2'] at hEN
            have hnx := w3'
            change (FL.read s 2000).next = _ at hnx
            have HNX := hid hnx
            have HEN := hid hEN
            clear hNX hEN w1' w2' w3' htx hnx
            go_wp2_with fail
            refine HEN.out.mono ?_
            rintro e w9 ⟨rfl, hd⟩
            simp only []
            have Q9 := hid (Q8.out.dr hd)
            clear hd
            have hNX := next_beh Q9.out
            rw [HNX.out] at hNX
            simp only [Bool.false_eq_true, if_true, if_false] at hNX
            have HNX2 := hid hNX
            clear hNX
            go_wp2_with fail
            refine HNX2.out.mono ?_
            rintro e w10 ⟨rfl, hd⟩
            simp only []
            have Q10 := hid (Q9.out.dr hd)
            clear hd
            go_wp2_with fail
            refine (works_any _).mono ?_
            rintro e w11 ⟨rfl, hb⟩
            simp only []
            go_wp2_with fail
            go_ret
            exact ⟨rfl, below_to Q10.out.old hb⟩
          · go_wp2_with fail
            refine ⟨⟨n + 1, by omega, by simp, hid (fun j hj => ?_), trivial⟩, by simp only [intOf]; omega⟩
            by_cases hjn : j = n
            · subst hjn; exact HCB.out
            · exact HALL.out j (by omega)
        · have dn : decide ((n : Int) < L) = false := decide_eq_false (by omega)
          have hnL' : n = L := by omega
          subst hnL'
          obtain ⟨cb, hcb⟩ : ∃ cb, came.getD n false = cb := ⟨_, rfl⟩
          have cC : wr.cell? ⟨C, n, none⟩ = some (.bool cb) := by rw [cell_at gC, boolsV_get (by omega), hcb]
          have hlc : (decide (n = n) && came.getD n false) = cb := by rw [decide_eq_true rfl, hcb]; rfl
          clear hcb
          cases cb
          · have hw := wh_end (n := n) WH.out (by omega) (by omega) HALL.out (fun h => by rw [hTl] at h; omega)
            rw [hTl, hlc] at hw
            obtain ⟨w1', w2', w3'⟩ := hw
            have htx : tb ++ RD = t.extract 0 n := by
              apply ByteArray.ext
              apply Array.ext'
              rw [append_list, extract_list, hT, ← HRD.out]
              simpa using w1'
            have htx2 : (tb ++ RD == t.extract 0 n) = true := (MapKept.bytes_beq _ _).2 htx
            have htx3 : ((tb ++ RD).toList == (t.extract 0 n).toList) = true := by rw [htx, beq_self_eq_true]
            have hwant : ((x : Int) + (n : Nat)) % 4294967296 = (((x + n) % 4294967296 : Nat) : Int) := by omega
            obtain ⟨Wt, hWt⟩ : ∃ Wt, (x + n) % 4294967296 = Wt := ⟨_, rfl⟩
            rw [hWt] at hwant w3'
            obtain ⟨Vt, hVt⟩ : ∃ Vt, (Wt + 1) % 4294967296 = Vt := ⟨_, rfl⟩
            rw [hVt] at w3'
            have hw2 : ((Wt : Int) + 1) % 4294967296 = (Vt : Int) := by omega
            clear hWt hVt
            have hNX := next_beh Q8.out
            have hEN := ended_beh Q8.out
            rw [show (FL.read s 2000).ended = _ from w2'] at hEN
            have hnx := w3'
            change (FL.read s 2000).next = _ at hnx
            have HNX := hid hnx
            have HEN := hid hEN
            clear hNX hEN w1' w2' w3' htx hnx
            go_wp2_with fail
            refine HEN.out.mono ?_
            rintro e w9 ⟨rfl, hd⟩
            simp only []
            have Q9 := hid (Q8.out.dr hd)
            clear hd
            have hNX := next_beh Q9.out
            rw [HNX.out] at hNX
            simp only [Bool.false_eq_true, if_true, if_false] at hNX
            have HNX2 := hid hNX
            clear hNX
            go_wp2_with fail
            refine HNX2.out.mono ?_
            rintro e w10 ⟨rfl, hd⟩
            simp only []
            have Q10 := hid (Q9.out.dr hd)
            clear hd
            go_wp2_with fail
            refine (works_any _).mono ?_
            rintro e w11 ⟨rfl, hb⟩
            simp only []
            go_wp2_with fail
            go_ret
            exact ⟨rfl, below_to Q10.out.old hb⟩
          · have hw := wh_end (n := n) WH.out (by omega) (by omega) HALL.out (fun h => by rw [hTl] at h; omega)
            rw [hTl, hlc] at hw
            obtain ⟨w1', w2', w3'⟩ := hw
            have htx : tb ++ RD = t.extract 0 n := by
              apply ByteArray.ext
              apply Array.ext'
              rw [append_list, extract_list, hT, ← HRD.out]
              simpa using w1'
            have htx2 : (tb ++ RD == t.extract 0 n) = true := (MapKept.bytes_beq _ _).2 htx
            have htx3 : ((tb ++ RD).toList == (t.extract 0 n).toList) = true := by rw [htx, beq_self_eq_true]
            have hwant : ((x : Int) + (n : Nat)) % 4294967296 = (((x + n) % 4294967296 : Nat) : Int) := by omega
            obtain ⟨Wt, hWt⟩ : ∃ Wt, (x + n) % 4294967296 = Wt := ⟨_, rfl⟩
            rw [hWt] at hwant w3'
            obtain ⟨Vt, hVt⟩ : ∃ Vt, (Wt + 1) % 4294967296 = Vt := ⟨_, rfl⟩
            rw [hVt] at w3'
            have hw2 : ((Wt : Int) + 1) % 4294967296 = (Vt : Int) := by omega
            clear hWt hVt
            have hNX := next_beh Q8.out
            have hEN := ended_beh Q8.out
            rw [show (FL.read s 2000).ended = _ from w2'] at hEN
            have hnx := w3'
            change (FL.read s 2000).next = _ at hnx
            have HNX := hid hnx
            have HEN := hid hEN
            clear hNX hEN w1' w2' w3' htx hnx
            go_wp2_with fail
            refine HEN.out.mono ?_
            rintro e w9 ⟨rfl, hd⟩
            simp only []
            have Q9 := hid (Q8.out.dr hd)
            clear hd
            have hNX := next_beh Q9.out
            rw [HNX.out] at hNX
            simp only [Bool.false_eq_true, if_true, if_false] at hNX
            have HNX2 := hid hNX
            clear hNX
            go_wp2_with fail
            refine HNX2.out.mono ?_
            rintro e w10 ⟨rfl, hd⟩
            simp only []
            have Q10 := hid (Q9.out.dr hd)
            clear hd
            go_wp2_with fail
            refine (works_any _).mono ?_
            rintro e w11 ⟨rfl, hb⟩
            simp only []
            go_wp2_with fail
            go_ret
            exact ⟨rfl, below_to Q10.out.old hb⟩
end Go.Proofs.Ytkmkgfgppblleaa
