/- The law FlowWindow: the walk. -/
import Derived.Test.YtkmkgfgppblleaaFlowL3
namespace Go.Proofs.Ytkmkgfgppblleaa
open Go.RowKit FL Go.Deep

theorem Dr.cell {w w' : World} (h : Dr w w') {p : Addr} {v : Value} (c : w.cell? p = some v) : w'.cell? p = some v := by obtain ⟨n, rfl⟩ := h; exact c
theorem held_is {W w : World} {P M c : Nat} {s : FS} {E : List (Nat × Obj)} (hc : s.cnt = c) (h : QBeh W w P M s E) : Calls Try.prog 25 #[.pointer (some ⟨P, 0, none⟩)] w fun e w' => e = .returned (.int .i64 (c : Int)) ∧ Dr w w' := hc ▸ held_beh h
theorem ready_is {W w : World} {P M c : Nat} {s : FS} {E : List (Nat × Obj)} (hc : s.ready.length = c) (h : QBeh W w P M s E) : Calls Try.prog 24 #[.pointer (some ⟨P, 0, none⟩)] w fun e w' => e = .returned (.int .i64 (c : Int)) ∧ Dr w w' := hc ▸ ready_beh h
set_option maxHeartbeats 4000000 in
set_option maxRecDepth 100000 in
theorem window_far (x wd : Int) (a : Option Addr) (len cap : Nat) (f : Nat → Stp) (W : World) (hs : StepsAt W a len f) (hl : len ≤ reachBytes) (hv : heavyB len f = true) :
    Calls Try.prog 5 #[.int .u32 x, .int .u16 wd, .slice a len cap] W fun e w' => e = .returned (.bool true) ∧ Below W.heap.size W w' := by
  have hh := heavy_any a len cap f W hs hl
  rw [hv] at hh
  go_enter Try.func5, Try.ntmps5
  go_wp2_with (go_at_call 13; refine hh.mono ?_; rintro e w' ⟨rfl, rfl⟩)
  refine (works_any W).mono ?_
  rintro e w1 ⟨rfl, hb⟩
  go_wp2_with fail
  go_ret
  exact ⟨rfl, hb⟩

set_option maxHeartbeats 8000000 in
set_option maxRecDepth 100000 in
theorem window_near (x wd : Nat) (hx : x < 4294967296) (hwd : wd < 65536) (a : Option Addr) (len cap : Nat) (f : Nat → Stp) (W : World) (hs : StepsAt W a len f) (hl : len ≤ reachBytes) (hv : heavyB len f = false) :
    Calls Try.prog 5 #[.int .u32 (x : Int), .int .u16 (wd : Int), .slice a len cap] W fun e w' => e = .returned (.bool true) ∧ Below W.heap.size W w' := by
  have hh := heavy_any a len cap f W hs hl
  rw [hv] at hh
  obtain ⟨hlen, hsz⟩ := light hv
  have HH := hid hh
  have HS := hid hs
  clear hh hs hl hv
  have hwd2 : (wd : Int) % 1000 + 1 = ((wd % 1000 + 1 : Nat) : Int) := by omega
  have hnew := new_beh (E := []) (Below.refl _ W) x (wd % 1000 + 1) hx (by omega) (fun p hp => by cases hp)
  have hn1 : wd % 1000 + 1 ≤ 1000 := by omega
  generalize wd % 1000 + 1 = n at *
  go_enter Try.func5, Try.ntmps5
  go_wp2_with (go_at_call 13; refine HH.out.mono ?_; rintro e w' ⟨rfl, rfl⟩)
  refine hnew.mono ?_
  rintro e w1 ⟨rfl, q⟩
  have Q := hid q
  clear q hnew
  go_wp2_with fail
  go_loopw [10] (fun i wr => ∃ (k : Nat) (s : FS), k ≤ len ∧ i = .int .i64 (k : Int) ∧ QBeh W wr (W.heap.size + 1) W.heap.size s [] ∧ s.size = n ∧ Stable s) (fun i _ => (len - intOf i).toNat)
  case atStart => exact ⟨0, _, by omega, rfl, Q.out, rfl, stable_new _ _⟩
  case round =>
    clear Q
    obtain ⟨k, s, hk, rfl, q, hsn, hst⟩ := hrel
    have Q := hid q
    have HSN := hid hsn
    have HST := hid hst
    clear q hsn hst
    by_cases hkl : k < len
    · have d1 : decide ((k : Int) < len) = true := decide_eq_true (by omega)
      obtain h0 | ⟨b, off, rfl, hbW, hcs⟩ := HS.out
      · omega
      obtain ⟨c0, c1, c2, c3, c4, hq, _, hnn⟩ := hcs k hkl
      have hdz := hsz k hkl
      have hcell : ∀ j, wr.cell? ⟨b, j, none⟩ = W.cell? ⟨b, j, none⟩ := fun j => Q.out.old.cell (p := ⟨b, j, none⟩) hbW
      rw [← hcell] at c0 c1 c2 c3 c4
      have hi0 : 0 ≤ (k : Int) := by omega
      have hi1 : (k : Int) < len := by omega
      clear hcs hcell
      generalize f k = t at *
      go_wp2_with fail
      have q2 := Q.out.make (.cells #[.int .u32 (t.seq : Int), .string t.data, .bool t.fin, .bool t.reads, .int .i64 t.n] 46) (alloc_at _ _)
      generalize wr.alloc (.cells #[.int .u32 (t.seq : Int), .string t.data, .bool t.fin, .bool t.reads, .int .i64 t.n] 46) = w2 at *
      generalize wr.heap.size = X at *
      have gX := q2.get (List.mem_cons_self ..)
      have cX0 : w2.cell? ⟨X, 0, none⟩ = some (.int .u32 (t.seq : Int)) := cell_at gX 0
      have cX1 : w2.cell? ⟨X, 1, none⟩ = some (.string t.data) := cell_at gX 1
      have cX2 : w2.cell? ⟨X, 2, none⟩ = some (.bool t.fin) := cell_at gX 2
      have cX3 : w2.cell? ⟨X, 3, none⟩ = some (.bool t.reads) := cell_at gX 3
      have cX4 : w2.cell? ⟨X, 4, none⟩ = some (.int .i64 t.n) := cell_at gX 4
      have Q2 := hid q2
      clear q2 c0 c1 c2 c3 c4 Q
      cases hrd : t.reads
      · rw [hrd] at cX3
        clear hrd
        obtain ⟨b1, hb1⟩ : ∃ b1, took s t.seq t.data.data.toList t.fin = b1 := ⟨_, rfl⟩
        obtain ⟨s1, hs1⟩ : ∃ s1, put s t.seq t.data.data.toList t.fin = s1 := ⟨_, rfl⟩
        have hI := Q2.out.inv
        have hnx := hI.next
        have hdl : t.data.data.toList.length = t.data.size := by simp
        have hgone := gone hI t.seq t.data.data.toList t.fin
        have htook := took_is (s := s) t.seq t.data.data.toList t.fin
        have hsum := put_sum s t.seq t.data.data.toList t.fin
        have hrdy := put_ready s t.seq t.data.data.toList t.fin
        have hI1 := inv_put hI t.seq t.data.data.toList t.fin
        have hsz1 := FL.put_size s t.seq t.data.data.toList t.fin
        have hst1 := stable_put HST.out t.seq t.data.data.toList t.fin
        have hend := fun h => took_ended (s := s) h t.seq t.data.data.toList t.fin
        have hout := fun h1 h2 => outside hI HST.out hq (data := t.data.data.toList) h1 h2
        have hput := fun (w : World) (q : QBeh W w (W.heap.size + 1) W.heap.size s [(X, Obj.cells #[.int .u32 (t.seq : Int), .string t.data, .bool t.fin, .bool t.reads, .int .i64 t.n] 46 (0, 0))]) => put_beh q t.seq hq t.data t.fin
        rw [hb1] at htook hend
        rw [hs1] at hgone htook hsum hrdy hI1 hsz1 hst1
        rw [hdl] at hsum hout
        have hle := sum_le hI1
        rw [hsz1, HSN.out] at hle
        have hcs1 : s.cnt ≤ 65537 := by
          have := List.countP_le_length (p := Option.isSome) (l := s.held)
          have := hI.len
          have := hI.size
          unfold FS.cnt
          omega
        have hrs := hI.room
        have hzs := hI.size
        have hwle := win_le hI
        have hN1l := hI1.next
        obtain ⟨n0, hn0⟩ : ∃ n0, s.next = n0 := ⟨_, rfl⟩
        obtain ⟨wi, hwi⟩ : ∃ wi, s.win = wi := ⟨_, rfl⟩
        obtain ⟨c, hc⟩ : ∃ c, s.cnt = c := ⟨_, rfl⟩
        obtain ⟨r, hr⟩ : ∃ r, s.ready.length = r := ⟨_, rfl⟩
        obtain ⟨n1, hn1'⟩ : ∃ n1, s1.next = n1 := ⟨_, rfl⟩
        obtain ⟨c1, hc1⟩ : ∃ c1, s1.cnt = c1 := ⟨_, rfl⟩
        obtain ⟨r1, hr1⟩ : ∃ r1, s1.ready.length = r1 := ⟨_, rfl⟩
        obtain ⟨ed, hed⟩ : ∃ ed, s.ended = ed := ⟨_, rfl⟩
        rw [hn0] at hnx
        have hGi := ofs_int n1 n0 hnx
        have hAi := ofs_int t.seq n0 hnx
        have hBi := ofs_int n0 t.seq hq
        rw [hn0, hwi] at hout
        rw [hn0, hn1', hwi] at hgone
        rw [hn0, hn1'] at htook
        rw [hr, hc, hr1, hc1] at hsum
        rw [hr, hr1] at hrdy
        rw [hr1, hc1] at hle
        rw [hwi] at hwle
        rw [hn1'] at hN1l
        rw [hr] at hrs
        rw [hc] at hcs1
        rw [hed] at hend
        have hG0 : (b1 != ((ofs n1 n0 : Int) != 0)) = false := by
          rw [htook]
          have := ofs_zero hN1l hnx
          by_cases h : n1 = n0
          · rw [this.2 h, h]; simp
          · have h2 : ofs n1 n0 ≠ 0 := fun e => h (this.1 e)
            have h3 : ((ofs n1 n0 : Int) != 0) = true := by rw [bne_iff_ne]; omega
            have h4 : (n1 != n0) = true := by rw [bne_iff_ne]; exact h
            rw [h3, h4]; rfl
        generalize ofs n1 n0 = G at *
        generalize hA : ofs t.seq n0 = A at *
        generalize hB : ofs n0 t.seq = B at *
        have hGw : decide ((wi : Int) + 1 < G) = false := decide_eq_false (by omega)
        have hRC : decide ((n : Int) < (r1 : Int) + c1) = false := decide_eq_false (by omega)
        have hT1 : decide ((r : Int) + c + t.data.size < (r1 : Int) + c1) = false := decide_eq_false (by omega)
        have hT2 : decide ((r1 : Int) < r) = false := decide_eq_false (by omega)
        have hT3 : decide (r1 < r) = false := decide_eq_false (by omega)
        have hT4 : (r1 < r) = False := eq_false (by omega)
        have hb2 : b1 = ((G : Int) != 0) := by simpa using hG0
        clear hG0
        have N1 := hid hn1'
        have C1 := hid hc1
        have R1 := hid hr1
        have N0 := hid hn0
        have W0 := hid hwi
        have C0 := hid hc
        have R0 := hid hr
        have ED := hid hed
        have SZ := hid (hsz1.trans HSN.out)
        have ST1 := hid hst1
        have HOUT := hid hout
        have HPUT := hid hput
        rw [hb2] at hend
        have HEND := hid hend
        clear hn0 hwi hc hr hn1' hc1 hr1 hed hsz1 hst1 hout hput hgone htook hsum hrdy hI hI1 hend hdl
        go_wp2_with (first | (go_at_call 12; (first | refine (next_beh Q2.out).mono ?_ | refine (next_beh (Q2.out.dr ⟨_, rfl⟩)).mono ?_); rw [N0.out]; rintro e w' ⟨rfl, nq, rfl⟩) | (go_at_call 22; (first | refine (window_beh Q2.out).mono ?_ | refine (window_beh (Q2.out.dr ⟨_, rfl⟩)).mono ?_); rw [W0.out]; rintro e w' ⟨rfl, nq, rfl⟩) | (go_at_call 25; (first | refine (held_beh Q2.out).mono ?_ | refine (held_beh (Q2.out.dr ⟨_, rfl⟩)).mono ?_); rw [C0.out]; rintro e w' ⟨rfl, nq, rfl⟩) | (go_at_call 24; (first | refine (ready_beh Q2.out).mono ?_ | refine (ready_beh (Q2.out.dr ⟨_, rfl⟩)).mono ?_); rw [R0.out]; rintro e w' ⟨rfl, nq, rfl⟩) | (go_at_call 9; (first | refine (ended_beh Q2.out).mono ?_ | refine (ended_beh (Q2.out.dr ⟨_, rfl⟩)).mono ?_); rw [ED.out]; rintro e w' ⟨rfl, nq, rfl⟩))
        refine (HPUT.out _ (Q2.out.dr ⟨_, rfl⟩)).mono ?_
        rw [hb1, hs1, hb2]
        rintro e w3 ⟨rfl, q3⟩
        have gX3 := q3.get (List.mem_cons_self ..)
        have Q3 := hid q3
        clear q3 cX0 cX1 cX2 cX3 cX4
        have cX0 : w3.cell? ⟨X, 0, none⟩ = some (.int .u32 (t.seq : Int)) := cell_at gX3 0
        have cX1 : w3.cell? ⟨X, 1, none⟩ = some (.string t.data) := cell_at gX3 1
        have cX2 : w3.cell? ⟨X, 2, none⟩ = some (.bool t.fin) := cell_at gX3 2
        have hw32 : (wi : Int) % 4294967296 = wi := by omega
        cases ed
        · by_cases o1 : wi ≤ A
          · have do1 : decide ((wi : Int) ≤ A) = true := decide_eq_true (by omega)
            by_cases o2 : t.data.size ≤ B
            · have do2 : decide ((t.data.size : Int) ≤ B) = true := decide_eq_true (by omega)
              obtain ⟨fn, hfn⟩ : ∃ fn, t.fin = fn := ⟨_, rfl⟩
              rw [hfn] at cX2
              cases fn
              · have h1 := HOUT.out o1 o2
                rw [← hfn, hs1] at h1
                have e1 : c1 = c := by rw [← C1.out, ← C0.out]; exact h1.2
                have e2 : r1 = r := by rw [← R1.out, ← R0.out, h1.1]
                have k1 : ((c1 : Int) != (c : Int)) = false := by rw [e1]; simp
                have k2 : ((r1 : Int) != (r : Int)) = false := by rw [e2]; simp
                clear h1 e1 e2 hfn
                go_wp2_with (first | (go_at_call 12; refine (next_beh Q3.out).mono ?_; rw [N1.out]; rintro e w4 ⟨rfl, hd4⟩; replace Q3 := hid (Q3.out.dr hd4); replace cX0 := hd4.cell cX0; replace cX1 := hd4.cell cX1; replace cX2 := hd4.cell cX2; clear hd4) | (go_at_call 25; refine (held_beh Q3.out).mono ?_; rw [C1.out]; rintro e w4 ⟨rfl, hd4⟩; replace Q3 := hid (Q3.out.dr hd4); replace cX0 := hd4.cell cX0; replace cX1 := hd4.cell cX1; replace cX2 := hd4.cell cX2; clear hd4) | (go_at_call 24; refine (ready_beh Q3.out).mono ?_; rw [R1.out]; rintro e w4 ⟨rfl, hd4⟩; replace Q3 := hid (Q3.out.dr hd4); replace cX0 := hd4.cell cX0; replace cX1 := hd4.cell cX1; replace cX2 := hd4.cell cX2; clear hd4))
                go_quiet ((first | (go_at_call 25; exact Calls.quiet_of (held_is C1.out (Q3.out.dr ⟨_, rfl⟩))) | (go_at_call 24; exact Calls.quiet_of (ready_is R1.out (Q3.out.dr ⟨_, rfl⟩)))))
                go_wp2_with fail
                exact ⟨⟨k + 1, s1, by omega, by simp, (Q3.out.dr ⟨_, rfl⟩).less (fun p hp => by cases hp), SZ.out, ST1.out⟩, by simp only [intOf]; omega⟩
              · clear hfn
                by_cases e1 : c1 = c
                · have k1 : ((c1 : Int) != (c : Int)) = false := by rw [e1]; simp
                  clear e1
                  by_cases e2 : r1 = r
                  · have k2 : ((r1 : Int) != (r : Int)) = false := by rw [e2]; simp
                    clear e2
                    go_wp2_with (first | (go_at_call 12; refine (next_beh Q3.out).mono ?_; rw [N1.out]; rintro e w4 ⟨rfl, hd4⟩; replace Q3 := hid (Q3.out.dr hd4); replace cX0 := hd4.cell cX0; replace cX1 := hd4.cell cX1; replace cX2 := hd4.cell cX2; clear hd4) | (go_at_call 25; refine (held_beh Q3.out).mono ?_; rw [C1.out]; rintro e w4 ⟨rfl, hd4⟩; replace Q3 := hid (Q3.out.dr hd4); replace cX0 := hd4.cell cX0; replace cX1 := hd4.cell cX1; replace cX2 := hd4.cell cX2; clear hd4) | (go_at_call 24; refine (ready_beh Q3.out).mono ?_; rw [R1.out]; rintro e w4 ⟨rfl, hd4⟩; replace Q3 := hid (Q3.out.dr hd4); replace cX0 := hd4.cell cX0; replace cX1 := hd4.cell cX1; replace cX2 := hd4.cell cX2; clear hd4))
                    go_quiet ((first | (go_at_call 25; exact Calls.quiet_of (held_is C1.out (Q3.out.dr ⟨_, rfl⟩))) | (go_at_call 24; exact Calls.quiet_of (ready_is R1.out (Q3.out.dr ⟨_, rfl⟩)))))
                    go_wp2_with fail
                    exact ⟨⟨k + 1, s1, by omega, by simp, (Q3.out.dr ⟨_, rfl⟩).less (fun p hp => by cases hp), SZ.out, ST1.out⟩, by simp only [intOf]; omega⟩
                  · have k2 : ((r1 : Int) != (r : Int)) = true := by rw [bne_iff_ne]; omega
                    clear e2
                    go_wp2_with (first | (go_at_call 12; refine (next_beh Q3.out).mono ?_; rw [N1.out]; rintro e w4 ⟨rfl, hd4⟩; replace Q3 := hid (Q3.out.dr hd4); replace cX0 := hd4.cell cX0; replace cX1 := hd4.cell cX1; replace cX2 := hd4.cell cX2; clear hd4) | (go_at_call 25; refine (held_beh Q3.out).mono ?_; rw [C1.out]; rintro e w4 ⟨rfl, hd4⟩; replace Q3 := hid (Q3.out.dr hd4); replace cX0 := hd4.cell cX0; replace cX1 := hd4.cell cX1; replace cX2 := hd4.cell cX2; clear hd4) | (go_at_call 24; refine (ready_beh Q3.out).mono ?_; rw [R1.out]; rintro e w4 ⟨rfl, hd4⟩; replace Q3 := hid (Q3.out.dr hd4); replace cX0 := hd4.cell cX0; replace cX1 := hd4.cell cX1; replace cX2 := hd4.cell cX2; clear hd4))
                    go_quiet ((first | (go_at_call 25; exact Calls.quiet_of (held_is C1.out (Q3.out.dr ⟨_, rfl⟩))) | (go_at_call 24; exact Calls.quiet_of (ready_is R1.out (Q3.out.dr ⟨_, rfl⟩)))))
                    go_wp2_with fail
                    exact ⟨⟨k + 1, s1, by omega, by simp, (Q3.out.dr ⟨_, rfl⟩).less (fun p hp => by cases hp), SZ.out, ST1.out⟩, by simp only [intOf]; omega⟩
                · have k1 : ((c1 : Int) != (c : Int)) = true := by rw [bne_iff_ne]; omega
                  clear e1
                  go_wp2_with (first | (go_at_call 12; refine (next_beh Q3.out).mono ?_; rw [N1.out]; rintro e w4 ⟨rfl, hd4⟩; replace Q3 := hid (Q3.out.dr hd4); replace cX0 := hd4.cell cX0; replace cX1 := hd4.cell cX1; replace cX2 := hd4.cell cX2; clear hd4) | (go_at_call 25; refine (held_beh Q3.out).mono ?_; rw [C1.out]; rintro e w4 ⟨rfl, hd4⟩; replace Q3 := hid (Q3.out.dr hd4); replace cX0 := hd4.cell cX0; replace cX1 := hd4.cell cX1; replace cX2 := hd4.cell cX2; clear hd4) | (go_at_call 24; refine (ready_beh Q3.out).mono ?_; rw [R1.out]; rintro e w4 ⟨rfl, hd4⟩; replace Q3 := hid (Q3.out.dr hd4); replace cX0 := hd4.cell cX0; replace cX1 := hd4.cell cX1; replace cX2 := hd4.cell cX2; clear hd4))
                  go_quiet ((first | (go_at_call 25; exact Calls.quiet_of (held_is C1.out (Q3.out.dr ⟨_, rfl⟩))) | (go_at_call 24; exact Calls.quiet_of (ready_is R1.out (Q3.out.dr ⟨_, rfl⟩)))))
                  go_wp2_with fail
                  exact ⟨⟨k + 1, s1, by omega, by simp, (Q3.out.dr ⟨_, rfl⟩).less (fun p hp => by cases hp), SZ.out, ST1.out⟩, by simp only [intOf]; omega⟩
            · have do2 : decide ((t.data.size : Int) ≤ B) = false := decide_eq_false (by omega)
              go_wp2_with (first | (go_at_call 12; refine (next_beh Q3.out).mono ?_; rw [N1.out]; rintro e w4 ⟨rfl, hd4⟩; replace Q3 := hid (Q3.out.dr hd4); replace cX0 := hd4.cell cX0; replace cX1 := hd4.cell cX1; replace cX2 := hd4.cell cX2; clear hd4) | (go_at_call 25; refine (held_beh Q3.out).mono ?_; rw [C1.out]; rintro e w4 ⟨rfl, hd4⟩; replace Q3 := hid (Q3.out.dr hd4); replace cX0 := hd4.cell cX0; replace cX1 := hd4.cell cX1; replace cX2 := hd4.cell cX2; clear hd4) | (go_at_call 24; refine (ready_beh Q3.out).mono ?_; rw [R1.out]; rintro e w4 ⟨rfl, hd4⟩; replace Q3 := hid (Q3.out.dr hd4); replace cX0 := hd4.cell cX0; replace cX1 := hd4.cell cX1; replace cX2 := hd4.cell cX2; clear hd4))
              go_quiet ((first | (go_at_call 25; exact Calls.quiet_of (held_is C1.out (Q3.out.dr ⟨_, rfl⟩))) | (go_at_call 24; exact Calls.quiet_of (ready_is R1.out (Q3.out.dr ⟨_, rfl⟩)))))
              go_wp2_with fail
              exact ⟨⟨k + 1, s1, by omega, by simp, (Q3.out.dr ⟨_, rfl⟩).less (fun p hp => by cases hp), SZ.out, ST1.out⟩, by simp only [intOf]; omega⟩
          · have do1 : decide ((wi : Int) ≤ A) = false := decide_eq_false (by omega)
            go_wp2_with (first | (go_at_call 12; refine (next_beh Q3.out).mono ?_; rw [N1.out]; rintro e w4 ⟨rfl, hd4⟩; replace Q3 := hid (Q3.out.dr hd4); replace cX0 := hd4.cell cX0; replace cX1 := hd4.cell cX1; replace cX2 := hd4.cell cX2; clear hd4) | (go_at_call 25; refine (held_beh Q3.out).mono ?_; rw [C1.out]; rintro e w4 ⟨rfl, hd4⟩; replace Q3 := hid (Q3.out.dr hd4); replace cX0 := hd4.cell cX0; replace cX1 := hd4.cell cX1; replace cX2 := hd4.cell cX2; clear hd4) | (go_at_call 24; refine (ready_beh Q3.out).mono ?_; rw [R1.out]; rintro e w4 ⟨rfl, hd4⟩; replace Q3 := hid (Q3.out.dr hd4); replace cX0 := hd4.cell cX0; replace cX1 := hd4.cell cX1; replace cX2 := hd4.cell cX2; clear hd4))
            go_quiet ((first | (go_at_call 25; exact Calls.quiet_of (held_is C1.out (Q3.out.dr ⟨_, rfl⟩))) | (go_at_call 24; exact Calls.quiet_of (ready_is R1.out (Q3.out.dr ⟨_, rfl⟩)))))
            go_wp2_with fail
            exact ⟨⟨k + 1, s1, by omega, by simp, (Q3.out.dr ⟨_, rfl⟩).less (fun p hp => by cases hp), SZ.out, ST1.out⟩, by simp only [intOf]; omega⟩
        · have hb0 := HEND.out rfl
          have hGz : ((G : Int) != 0) = false := hb0
          clear hb0
          by_cases o1 : wi ≤ A
          · have do1 : decide ((wi : Int) ≤ A) = true := decide_eq_true (by omega)
            by_cases o2 : t.data.size ≤ B
            · have do2 : decide ((t.data.size : Int) ≤ B) = true := decide_eq_true (by omega)
              obtain ⟨fn, hfn⟩ : ∃ fn, t.fin = fn := ⟨_, rfl⟩
              rw [hfn] at cX2
              cases fn
              · have h1 := HOUT.out o1 o2
                rw [← hfn, hs1] at h1
                have e1 : c1 = c := by rw [← C1.out, ← C0.out]; exact h1.2
                have e2 : r1 = r := by rw [← R1.out, ← R0.out, h1.1]
                have k1 : ((c1 : Int) != (c : Int)) = false := by rw [e1]; simp
                have k2 : ((r1 : Int) != (r : Int)) = false := by rw [e2]; simp
                clear h1 e1 e2 hfn
                go_wp2_with (first | (go_at_call 12; refine (next_beh Q3.out).mono ?_; rw [N1.out]; rintro e w4 ⟨rfl, hd4⟩; replace Q3 := hid (Q3.out.dr hd4); replace cX0 := hd4.cell cX0; replace cX1 := hd4.cell cX1; replace cX2 := hd4.cell cX2; clear hd4) | (go_at_call 25; refine (held_beh Q3.out).mono ?_; rw [C1.out]; rintro e w4 ⟨rfl, hd4⟩; replace Q3 := hid (Q3.out.dr hd4); replace cX0 := hd4.cell cX0; replace cX1 := hd4.cell cX1; replace cX2 := hd4.cell cX2; clear hd4) | (go_at_call 24; refine (ready_beh Q3.out).mono ?_; rw [R1.out]; rintro e w4 ⟨rfl, hd4⟩; replace Q3 := hid (Q3.out.dr hd4); replace cX0 := hd4.cell cX0; replace cX1 := hd4.cell cX1; replace cX2 := hd4.cell cX2; clear hd4))
                go_quiet ((first | (go_at_call 25; exact Calls.quiet_of (held_is C1.out (Q3.out.dr ⟨_, rfl⟩))) | (go_at_call 24; exact Calls.quiet_of (ready_is R1.out (Q3.out.dr ⟨_, rfl⟩)))))
                go_wp2_with fail
                exact ⟨⟨k + 1, s1, by omega, by simp, (Q3.out.dr ⟨_, rfl⟩).less (fun p hp => by cases hp), SZ.out, ST1.out⟩, by simp only [intOf]; omega⟩
              · clear hfn
                by_cases e1 : c1 = c
                · have k1 : ((c1 : Int) != (c : Int)) = false := by rw [e1]; simp
                  clear e1
                  by_cases e2 : r1 = r
                  · have k2 : ((r1 : Int) != (r : Int)) = false := by rw [e2]; simp
                    clear e2
                    go_wp2_with (first | (go_at_call 12; refine (next_beh Q3.out).mono ?_; rw [N1.out]; rintro e w4 ⟨rfl, hd4⟩; replace Q3 := hid (Q3.out.dr hd4); replace cX0 := hd4.cell cX0; replace cX1 := hd4.cell cX1; replace cX2 := hd4.cell cX2; clear hd4) | (go_at_call 25; refine (held_beh Q3.out).mono ?_; rw [C1.out]; rintro e w4 ⟨rfl, hd4⟩; replace Q3 := hid (Q3.out.dr hd4); replace cX0 := hd4.cell cX0; replace cX1 := hd4.cell cX1; replace cX2 := hd4.cell cX2; clear hd4) | (go_at_call 24; refine (ready_beh Q3.out).mono ?_; rw [R1.out]; rintro e w4 ⟨rfl, hd4⟩; replace Q3 := hid (Q3.out.dr hd4); replace cX0 := hd4.cell cX0; replace cX1 := hd4.cell cX1; replace cX2 := hd4.cell cX2; clear hd4))
                    go_quiet ((first | (go_at_call 25; exact Calls.quiet_of (held_is C1.out (Q3.out.dr ⟨_, rfl⟩))) | (go_at_call 24; exact Calls.quiet_of (ready_is R1.out (Q3.out.dr ⟨_, rfl⟩)))))
                    go_wp2_with fail
                    exact ⟨⟨k + 1, s1, by omega, by simp, (Q3.out.dr ⟨_, rfl⟩).less (fun p hp => by cases hp), SZ.out, ST1.out⟩, by simp only [intOf]; omega⟩
                  · have k2 : ((r1 : Int) != (r : Int)) = true := by rw [bne_iff_ne]; omega
                    clear e2
                    go_wp2_with (first | (go_at_call 12; refine (next_beh Q3.out).mono ?_; rw [N1.out]; rintro e w4 ⟨rfl, hd4⟩; replace Q3 := hid (Q3.out.dr hd4); replace cX0 := hd4.cell cX0; replace cX1 := hd4.cell cX1; replace cX2 := hd4.cell cX2; clear hd4) | (go_at_call 25; refine (held_beh Q3.out).mono ?_; rw [C1.out]; rintro e w4 ⟨rfl, hd4⟩; replace Q3 := hid (Q3.out.dr hd4); replace cX0 := hd4.cell cX0; replace cX1 := hd4.cell cX1; replace cX2 := hd4.cell cX2; clear hd4) | (go_at_call 24; refine (ready_beh Q3.out).mono ?_; rw [R1.out]; rintro e w4 ⟨rfl, hd4⟩; replace Q3 := hid (Q3.out.dr hd4); replace cX0 := hd4.cell cX0; replace cX1 := hd4.cell cX1; replace cX2 := hd4.cell cX2; clear hd4))
                    go_quiet ((first | (go_at_call 25; exact Calls.quiet_of (held_is C1.out (Q3.out.dr ⟨_, rfl⟩))) | (go_at_call 24; exact Calls.quiet_of (ready_is R1.out (Q3.out.dr ⟨_, rfl⟩)))))
                    go_wp2_with fail
                    exact ⟨⟨k + 1, s1, by omega, by simp, (Q3.out.dr ⟨_, rfl⟩).less (fun p hp => by cases hp), SZ.out, ST1.out⟩, by simp only [intOf]; omega⟩
                · have k1 : ((c1 : Int) != (c : Int)) = true := by rw [bne_iff_ne]; omega
                  clear e1
                  go_wp2_with (first | (go_at_call 12; refine (next_beh Q3.out).mono ?_; rw [N1.out]; rintro e w4 ⟨rfl, hd4⟩; replace Q3 := hid (Q3.out.dr hd4); replace cX0 := hd4.cell cX0; replace cX1 := hd4.cell cX1; replace cX2 := hd4.cell cX2; clear hd4) | (go_at_call 25; refine (held_beh Q3.out).mono ?_; rw [C1.out]; rintro e w4 ⟨rfl, hd4⟩; replace Q3 := hid (Q3.out.dr hd4); replace cX0 := hd4.cell cX0; replace cX1 := hd4.cell cX1; replace cX2 := hd4.cell cX2; clear hd4) | (go_at_call 24; refine (ready_beh Q3.out).mono ?_; rw [R1.out]; rintro e w4 ⟨rfl, hd4⟩; replace Q3 := hid (Q3.out.dr hd4); replace cX0 := hd4.cell cX0; replace cX1 := hd4.cell cX1; replace cX2 := hd4.cell cX2; clear hd4))
                  go_quiet ((first | (go_at_call 25; exact Calls.quiet_of (held_is C1.out (Q3.out.dr ⟨_, rfl⟩))) | (go_at_call 24; exact Calls.quiet_of (ready_is R1.out (Q3.out.dr ⟨_, rfl⟩)))))
                  go_wp2_with fail
                  exact ⟨⟨k + 1, s1, by omega, by simp, (Q3.out.dr ⟨_, rfl⟩).less (fun p hp => by cases hp), SZ.out, ST1.out⟩, by simp only [intOf]; omega⟩
            · have do2 : decide ((t.data.size : Int) ≤ B) = false := decide_eq_false (by omega)
              go_wp2_with (first | (go_at_call 12; refine (next_beh Q3.out).mono ?_; rw [N1.out]; rintro e w4 ⟨rfl, hd4⟩; replace Q3 := hid (Q3.out.dr hd4); replace cX0 := hd4.cell cX0; replace cX1 := hd4.cell cX1; replace cX2 := hd4.cell cX2; clear hd4) | (go_at_call 25; refine (held_beh Q3.out).mono ?_; rw [C1.out]; rintro e w4 ⟨rfl, hd4⟩; replace Q3 := hid (Q3.out.dr hd4); replace cX0 := hd4.cell cX0; replace cX1 := hd4.cell cX1; replace cX2 := hd4.cell cX2; clear hd4) | (go_at_call 24; refine (ready_beh Q3.out).mono ?_; rw [R1.out]; rintro e w4 ⟨rfl, hd4⟩; replace Q3 := hid (Q3.out.dr hd4); replace cX0 := hd4.cell cX0; replace cX1 := hd4.cell cX1; replace cX2 := hd4.cell cX2; clear hd4))
              go_quiet ((first | (go_at_call 25; exact Calls.quiet_of (held_is C1.out (Q3.out.dr ⟨_, rfl⟩))) | (go_at_call 24; exact Calls.quiet_of (ready_is R1.out (Q3.out.dr ⟨_, rfl⟩)))))
              go_wp2_with fail
              exact ⟨⟨k + 1, s1, by omega, by simp, (Q3.out.dr ⟨_, rfl⟩).less (fun p hp => by cases hp), SZ.out, ST1.out⟩, by simp only [intOf]; omega⟩
          · have do1 : decide ((wi : Int) ≤ A) = false := decide_eq_false (by omega)
            go_wp2_with (first | (go_at_call 12; refine (next_beh Q3.out).mono ?_; rw [N1.out]; rintro e w4 ⟨rfl, hd4⟩; replace Q3 := hid (Q3.out.dr hd4); replace cX0 := hd4.cell cX0; replace cX1 := hd4.cell cX1; replace cX2 := hd4.cell cX2; clear hd4) | (go_at_call 25; refine (held_beh Q3.out).mono ?_; rw [C1.out]; rintro e w4 ⟨rfl, hd4⟩; replace Q3 := hid (Q3.out.dr hd4); replace cX0 := hd4.cell cX0; replace cX1 := hd4.cell cX1; replace cX2 := hd4.cell cX2; clear hd4) | (go_at_call 24; refine (ready_beh Q3.out).mono ?_; rw [R1.out]; rintro e w4 ⟨rfl, hd4⟩; replace Q3 := hid (Q3.out.dr hd4); replace cX0 := hd4.cell cX0; replace cX1 := hd4.cell cX1; replace cX2 := hd4.cell cX2; clear hd4))
            go_quiet ((first | (go_at_call 25; exact Calls.quiet_of (held_is C1.out (Q3.out.dr ⟨_, rfl⟩))) | (go_at_call 24; exact Calls.quiet_of (ready_is R1.out (Q3.out.dr ⟨_, rfl⟩)))))
            go_wp2_with fail
            exact ⟨⟨k + 1, s1, by omega, by simp, (Q3.out.dr ⟨_, rfl⟩).less (fun p hp => by cases hp), SZ.out, ST1.out⟩, by simp only [intOf]; omega⟩
      · rw [hrd] at cX3
        clear hrd
        have hrl := read_len (s := s) t.n
        obtain ⟨RD, hRD⟩ : ∃ RD, (⟨(s.ready.take (readN s t.n)).toArray⟩ : ByteArray) = RD := ⟨_, rfl⟩
        have hRDs : (RD.size : Int) = min (max t.n 0) s.ready.length := by rw [← hRD, ← hrl]; simp [ByteArray.size]
        have hcnt : (FL.read s t.n).cnt = s.cnt := rfl
        have hnxt : (FL.read s t.n).next = s.next := rfl
        have HCN := hid hcnt
        have HNX := hid hnxt
        have hb0 : (min (max t.n 0) (s.ready.length : Int) != min (max t.n 0) (s.ready.length : Int)) = false := by rw [bne_self_eq_false]
        clear hrl hcnt hnxt
        go_wp2_with (first | (go_at_call 12; (first | refine (next_beh Q2.out).mono ?_ | refine (next_beh (Q2.out.dr ⟨_, rfl⟩)).mono ?_); rintro e w' ⟨rfl, nq, rfl⟩) | (go_at_call 22; (first | refine (window_beh Q2.out).mono ?_ | refine (window_beh (Q2.out.dr ⟨_, rfl⟩)).mono ?_); rintro e w' ⟨rfl, nq, rfl⟩) | (go_at_call 25; (first | refine (held_beh Q2.out).mono ?_ | refine (held_beh (Q2.out.dr ⟨_, rfl⟩)).mono ?_); rintro e w' ⟨rfl, nq, rfl⟩) | (go_at_call 24; (first | refine (ready_beh Q2.out).mono ?_ | refine (ready_beh (Q2.out.dr ⟨_, rfl⟩)).mono ?_); rintro e w' ⟨rfl, nq, rfl⟩) | (go_at_call 9; (first | refine (ended_beh Q2.out).mono ?_ | refine (ended_beh (Q2.out.dr ⟨_, rfl⟩)).mono ?_); rintro e w' ⟨rfl, nq, rfl⟩))
        refine (read_beh (Q2.out.dr ⟨_, rfl⟩) t.n).mono ?_
        rintro e w3 ⟨rfl, q3⟩
        rw [hRD]
        have gX3 := q3.get (List.mem_cons_self ..)
        have Q3 := hid q3
        clear q3 hRD cX0 cX1 cX2 cX3 cX4
        have cX0 : w3.cell? ⟨X, 0, none⟩ = some (.int .u32 (t.seq : Int)) := cell_at gX3 0
        have cX1 : w3.cell? ⟨X, 1, none⟩ = some (.string t.data) := cell_at gX3 1
        have cX2 : w3.cell? ⟨X, 2, none⟩ = some (.bool t.fin) := cell_at gX3 2
        have cX3 : w3.cell? ⟨X, 3, none⟩ = some (.bool t.reads) := cell_at gX3 3
        have cX4 : w3.cell? ⟨X, 4, none⟩ = some (.int .i64 t.n) := cell_at gX3 4
        go_wp2_with (first | (go_at_call 12; (first | refine (next_beh Q3.out).mono ?_ | refine (next_beh (Q3.out.dr ⟨_, rfl⟩)).mono ?_); rw [HNX.out]; rintro e w' ⟨rfl, nq, rfl⟩) | (go_at_call 25; (first | refine (held_beh Q3.out).mono ?_ | refine (held_beh (Q3.out.dr ⟨_, rfl⟩)).mono ?_); rw [HCN.out]; rintro e w' ⟨rfl, nq, rfl⟩))
        exact ⟨⟨k + 1, FL.read s t.n, by omega, by simp, (Q3.out.dr ⟨_, rfl⟩).less (fun p hp => by cases hp), HSN.out, stable_read HST.out _⟩, by simp only [intOf]; omega⟩
    · have d1 : decide ((k : Int) < len) = false := decide_eq_false (by omega)
      go_wp2_with fail
      refine (works_any wr).mono ?_
      rintro e w1 ⟨rfl, hb⟩
      go_wp2_with fail
      go_ret
      exact ⟨rfl, below_to Q.out.old hb⟩
end Go.Proofs.Ytkmkgfgppblleaa
