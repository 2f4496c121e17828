/- The queue's Put. -/
import Derived.Test.YtkmkgfgppblleaaFlowW3
namespace Go.Proofs.Ytkmkgfgppblleaa
open Go.RowKit FL

section
variable {w : World} {P M : Nat} {rv : Value} {en : Int} {s : FS}
theorem getD_bytes {d : ByteArray} {k : Nat} (h : k < d.size) : d[k]'h = d.data.toList.getD k 0 := by
  have h' : k < d.data.toList.length := by simpa using h
  rw [List.getD_eq_getElem?_getD, List.getElem?_eq_getElem h']
  simp; rfl
theorem wf_u8 {n : Int} (h : 0 ≤ n ∧ n ≤ 255) : (Lit.int .u8 n).wf = true := by
  simp [Lit.wf, IntKind.min, IntKind.max, IntKind.signed, IntKind.bits]; omega
theorem bne_cast (a b : Nat) : ((a : Int) != (b : Int)) = (a != b) := by
  rw [Bool.eq_iff_iff, bne_iff_ne, bne_iff_ne]; omega
theorem lay1_held {a : Nat} {c : UInt8} {l : List (Option UInt8)} (h : (l.getD a none).isSome = true) : lay1 s a c l = l := by
  unfold lay1
  rw [if_neg]
  cases hx : l.getD a none <;> rw [hx] at h
  · cases h
  · simp
theorem lay1_out {a : Nat} {c : UInt8} {l : List (Option UInt8)} (h : ¬ a < s.win) : lay1 s a c l = l := by
  unfold lay1
  rw [if_neg]
  simp [h]
theorem lay1_end {a : Nat} {c : UInt8} {l : List (Option UInt8)} (he : s.hasEnd = true) (h : ¬ a < s.endo) : lay1 s a c l = l := by
  unfold lay1
  rw [if_neg]
  simp [h, he]
theorem lay1_new {a : Nat} {c : UInt8} {l : List (Option UInt8)} (h : a < s.win) (hl : l.getD a none = none) (he : s.hasEnd = true → a < s.endo) : lay1 s a c l = l.set a (some c) := by
  unfold lay1
  rw [if_pos]
  rw [hl, decide_eq_true h]
  cases hx : s.hasEnd
  · rfl
  · simp [he hx]
theorem win_size (hs : Inv s) : s.win ≤ s.size := by
  unfold FS.win
  split <;> omega
theorem win_le (hs : Inv s) : s.win ≤ 65536 := by
  have := hs.size
  unfold FS.win
  split <;> omega

set_option maxHeartbeats 1000000 in
set_option maxRecDepth 100000 in
theorem put_no_any (hq : QAt w P M rv en s) (x : Nat) (d : ByteArray) (f : Bool) (h : (s.ended || decide (65536 < d.size)) = true) : Calls Try.prog 10 #[.pointer (some ⟨P, 0, none⟩), .int .u32 (x : Int), .string d, .bool f] w fun r w' => r = .returned (.bool false) ∧ Dr w w' := by
  have gP : hget w P = some (.cells #[.int .u32 (s.next : Int), .int .i64 (s.size : Int), rv, .map (some M), .bool s.hasEnd, .int .u32 en, .bool s.ended] 55 (0, 0)) := hq.cells
  cases he : s.ended
  · rw [he] at h gP
    have d0 : 65536 < d.size := by simpa using h
    have d1 : decide (65536 < (d.size : Int)) = true := decide_eq_true (by omega)
    have cP0 : w.cell? ⟨P, 0, none⟩ = some (.int .u32 _) := cell_at gP 0
    have cP1 : w.cell? ⟨P, 1, none⟩ = some (.int .i64 _) := cell_at gP 1
    have cP2 : w.cell? ⟨P, 2, none⟩ = some rv := cell_at gP 2
    have cP3 : w.cell? ⟨P, 3, none⟩ = some (.map (some M)) := cell_at gP 3
    have cP4 : w.cell? ⟨P, 4, none⟩ = some (.bool _) := cell_at gP 4
    have cP5 : w.cell? ⟨P, 5, none⟩ = some (.int .u32 _) := cell_at gP 5
    have cP6 : w.cell? ⟨P, 6, none⟩ = some (.bool _) := cell_at gP 6
    have fP := free_at gP
    go_enter Try.func10, Try.ntmps10
    go_wp2_with fail
    go_ret
    exact ⟨rfl, Dr.refl _⟩
  · rw [he] at gP
    have cP0 : w.cell? ⟨P, 0, none⟩ = some (.int .u32 _) := cell_at gP 0
    have cP1 : w.cell? ⟨P, 1, none⟩ = some (.int .i64 _) := cell_at gP 1
    have cP2 : w.cell? ⟨P, 2, none⟩ = some rv := cell_at gP 2
    have cP3 : w.cell? ⟨P, 3, none⟩ = some (.map (some M)) := cell_at gP 3
    have cP4 : w.cell? ⟨P, 4, none⟩ = some (.bool _) := cell_at gP 4
    have cP5 : w.cell? ⟨P, 5, none⟩ = some (.int .u32 _) := cell_at gP 5
    have cP6 : w.cell? ⟨P, 6, none⟩ = some (.bool _) := cell_at gP 6
    have fP := free_at gP
    go_enter Try.func10, Try.ntmps10
    go_wp2_with fail
    go_ret
    exact ⟨rfl, Dr.refl _⟩

/-- The loop's state. -/
def PutRel (w : World) (P M : Nat) (rv : Value) (en : Int) (s : FS) (x : Nat) (d : ByteArray) (i : Value) (wr : World) : Prop :=
  ∃ k : Nat, k ≤ d.size ∧ i = .int .i64 (k : Int) ∧ QAt wr P M rv en { s with held := layK s x d.data.toList k } ∧ Out (fun j => j = M) w wr
theorem PutRel.at {wr : World} {x : Nat} {d : ByteArray} {k : Nat} (hk : k < d.size) (h : QAt wr P M rv en { s with held := layK s x d.data.toList (k + 1) }) (ho : Out (fun j => j = M) w wr) : PutRel w P M rv en s x d (.int .i64 ((k : Int) + 1)) wr ∧ (((d.size : Int) - intOf (.int .i64 ((k : Int) + 1))).toNat < ((d.size : Int) - intOf (.int .i64 (k : Int))).toNat) :=
  ⟨⟨k + 1, by omega, by simp, h, ho⟩, by simp only [intOf]; omega⟩

set_option maxHeartbeats 4000000 in
set_option maxRecDepth 100000 in
theorem put_yes_any (hq : QAt w P M rv en s) (hs : Inv s) (x : Nat) (hx : x < 4294967296) (d : ByteArray) (f : Bool) (hne : s.ended = false) (hd : d.size ≤ 65536) :
    Calls Try.prog 10 #[.pointer (some ⟨P, 0, none⟩), .int .u32 (x : Int), .string d, .bool f] w fun r w' => r = .returned (.bool (took s x d.data.toList f)) ∧ ∃ rv' en', QAt w' P M rv' en' (put s x d.data.toList f) ∧ Out (QEx P M rv) w w' ∧ Near w rv rv' := by
  have gP : hget w P = some (.cells #[.int .u32 (s.next : Int), .int .i64 (s.size : Int), rv, .map (some M), .bool s.hasEnd, .int .u32 en, .bool s.ended] 55 (0, 0)) := hq.cells
  rw [hne] at gP
  have d1 : decide (65536 < (d.size : Int)) = false := decide_eq_false (by omega)
  have hw := win_le hs
  have hnx := hs.next
  have HQ := hid hq
  have HS := hid hs
  have hwin : (s.win : Int) % 4294967296 = (s.win : Int) := by omega
  clear hq hs
  have cP0 : w.cell? ⟨P, 0, none⟩ = some (.int .u32 _) := cell_at gP 0
  have cP1 : w.cell? ⟨P, 1, none⟩ = some (.int .i64 _) := cell_at gP 1
  have cP2 : w.cell? ⟨P, 2, none⟩ = some rv := cell_at gP 2
  have cP3 : w.cell? ⟨P, 3, none⟩ = some (.map (some M)) := cell_at gP 3
  have cP4 : w.cell? ⟨P, 4, none⟩ = some (.bool _) := cell_at gP 4
  have cP5 : w.cell? ⟨P, 5, none⟩ = some (.int .u32 _) := cell_at gP 5
  have cP6 : w.cell? ⟨P, 6, none⟩ = some (.bool _) := cell_at gP 6
  have fP := free_at gP
  go_enter Try.func10, Try.ntmps10
  go_wp2_with fail
  go_quiet ((go_at_call 22; exact Calls.quiet_of (window_any (HQ.out.dr ⟨_, rfl⟩) HS.out)))
  go_wp2_with fail
  go_loopw [38] (fun i wr => PutRel w P M rv en s x d i wr) (fun i _ => (d.size - intOf i).toNat)
  case atStart => exact ⟨0, by omega, rfl, HQ.out.dr ⟨_, rfl⟩, Out.of_dr ⟨_, rfl⟩⟩
  case round =>
    obtain ⟨k, hk, rfl, hq, ho⟩ := hrel
    clear cP0 cP1 cP2 cP3 cP4 cP5 cP6 fP gP
    have gP : hget wr P = some (.cells #[.int .u32 (s.next : Int), .int .i64 (s.size : Int), rv, .map (some M), .bool s.hasEnd, .int .u32 en, .bool s.ended] 55 (0, 0)) := hq.cells
    rw [hne] at gP
    have cP0 : wr.cell? ⟨P, 0, none⟩ = some (.int .u32 _) := cell_at gP 0
    have cP1 : wr.cell? ⟨P, 1, none⟩ = some (.int .i64 _) := cell_at gP 1
    have cP2 : wr.cell? ⟨P, 2, none⟩ = some rv := cell_at gP 2
    have cP3 : wr.cell? ⟨P, 3, none⟩ = some (.map (some M)) := cell_at gP 3
    have cP4 : wr.cell? ⟨P, 4, none⟩ = some (.bool _) := cell_at gP 4
    have cP5 : wr.cell? ⟨P, 5, none⟩ = some (.int .u32 _) := cell_at gP 5
    have cP6 : wr.cell? ⟨P, 6, none⟩ = some (.bool _) := cell_at gP 6
    have fP := free_at gP
    obtain ⟨D, hown, hD⟩ := hq.own
    change FMap D s.next (layK s x d.data.toList k) at hD
    by_cases hkd : k < d.size
    · have hlt : decide ((k : Int) < d.size) = true := decide_eq_true (by omega)
      have hN : ((x : Int) + k) % 4294967296 = (((x + k) % 4294967296 : Nat) : Int) := by omega
      have hlay : layK s x d.data.toList (k + 1) = lay1 s (ofs ((x + k) % 4294967296) s.next) (d.data.toList.getD k 0) (layK s x d.data.toList k) := rfl
      have hNl : (x + k) % 4294967296 < 4294967296 := Nat.mod_lt _ (by decide)
      have hrun := fun nq => look_run (w := wr.drewN nq) (hown.kept (row := none) ⟨rfl, rfl, rfl, Nat.le_refl _, fun _ _ _ => rfl⟩ (by simp)) hD hNl
      generalize (x + k) % 4294967296 = N at *
      generalize hA : ofs N s.next = A at *
      have HQK := hid hq
      have HO := hid ho
      have HD := hid hD
      have HOWN := hid hown
      have HLAY := hid hlay
      clear hq ho hD hown hlay
      by_cases c1 : A < s.win
      · have hin := fun nq => hid (in_any N s.next s.win (wr.drewN nq) hnx)
        rw [hA, decide_eq_true c1] at hin
        cases he : s.hasEnd
        · rw [he] at cP4
          have HE := hid he
          clear he
          go_wp2_with fail
          go_quiet ((go_at_call 16; exact Calls.quiet_of_same (rsame (hin _).out)))
          cases hl : (layK s x d.data.toList k).getD A none with
          | some c =>
            rw [hl] at hrun
            simp only [byteAt, Option.isSome_some] at hrun
            go_wp2_with fail
            refine PutRel.at hkd ?_ (HO.out.drewN _)
            rw [HLAY.out, lay1_held (by rw [hl]; rfl)]
            exact HQK.out.dr ⟨_, rfl⟩
          | none =>
            rw [hl] at hrun
            simp only [byteAt, Option.isSome_none] at hrun
            go_wp2_with fail
            refine still_tail 8 (by kernel_rfl) (by kernel_rfl) ?_
            simp only [List.take_succ_cons, List.take_zero, List.drop_succ_cons, List.drop_zero]
            repeat (first | (refine wpStill_step (fun K hK => ?_); go_simp; refine hK _ ?_; clear hK K; try go_ints))
            refine wpStill_nil ?_
            have hown' := HOWN.out.kept (w' := (wr.drewN nq).drew) (row := none) ⟨rfl, rfl, rfl, Nat.le_refl _, fun _ _ _ => rfl⟩ (by simp)
            obtain ⟨c, hc⟩ : ∃ c, d.data.toList.getD k 0 = c := ⟨_, rfl⟩
            have hcd : d[k]'hkd = c := by rw [← hc]; exact getD_bytes hkd
            have hlen := (layK_len s x d.data.toList k).trans HS.out.len
            have hz := HS.out.size
            refine wpList_mapUpdate_own _ rfl _ _ _ 53 rfl 22 5 u32law Try.underlying53 _ M _ D rfl hown' ?ca _ _ _ rfl rfl (Maps.keyOf_int_mk Try.underlying22 (WalkArith.wf_u32 (by omega))) (.lit (.int .u8 (c.toNat : Int))) [] ?cb ?_
            case ca =>
              have h1 := List.countP_le_length (p := Option.isSome) (l := layK s x d.data.toList k)
              have h2 := HD.out.size
              unfold maxLen
              omega
            case cb =>
              rw [hcd]
              have := c.toNat_lt
              exact plainElem_int Try.underlying5 (wf_u8 (by omega))
            intro w1 hown1 hg1
            go_wp2_with fail
            refine PutRel.at hkd ?_ ((HO.out.drewN nq).drew.then (Out.of_grown hg1 fun j e => by injection e with e; exact e.symm))
            have hq := HQK.out
            rw [HLAY.out, hc, lay1_new c1 hl (fun e => by rw [HE.out] at e; cases e)]
            refine ⟨hget_grown hq.cells (w := (wr.drewN nq).drew) hg1 (by simp; exact hq.ne), ⟨_, World.ownsMap.fit_size hown1, ?_⟩, ?_, hq.ne, hq.rp, hq.rm, hq.enr, hq.fin⟩
            · have h1 := HD.out.put (c := c) hNl hnx (by rw [hA]; have := win_size HS.out; omega) (by rw [hA, hl]; rfl)
              rw [hA] at h1
              exact h1
            · exact hq.ready.keep fun g o hg ho => hget_grown (w := (wr.drewN nq).drew) ho hg1 (by intro e; injection e with e; subst e; exact hq.rm hg)
        · obtain ⟨e, he1, he2⟩ := HQ.out.fin he hne
          have hen := HQ.out.enr
          rw [he] at cP4
          rw [he1] at cP5
          have hofs := ofs_int e s.next hnx
          rw [he2] at hofs
          have hin2 := fun nq => hid (in_any N s.next s.endo (wr.drewN nq) hnx)
          rw [hA] at hin2
          have HE := hid he
          have HE1 := hid he1
          have HE2 := hid he2
          clear he he1 he2
          by_cases c3 : A < s.endo
          · rw [decide_eq_true c3] at hin2
            go_wp2_with fail
            go_quiet ((go_at_call 16; first | with_reducible exact Calls.quiet_of_same (rsame (hin _).out) | with_reducible exact Calls.quiet_of_same (rsame (hin2 _).out)))
            cases hl : (layK s x d.data.toList k).getD A none with
            | some c =>
              rw [hl] at hrun
              simp only [byteAt, Option.isSome_some] at hrun
              go_wp2_with fail
              refine PutRel.at hkd ?_ (HO.out.drewN _)
              rw [HLAY.out, lay1_held (by rw [hl]; rfl)]
              exact HQK.out.dr ⟨_, rfl⟩
            | none =>
              rw [hl] at hrun
              simp only [byteAt, Option.isSome_none] at hrun
              go_wp2_with fail
              refine still_tail 8 (by kernel_rfl) (by kernel_rfl) ?_
              simp only [List.take_succ_cons, List.take_zero, List.drop_succ_cons, List.drop_zero]
              repeat (first | (refine wpStill_step (fun K hK => ?_); go_simp; refine hK _ ?_; clear hK K; try go_ints))
              refine wpStill_nil ?_
              have hown' := HOWN.out.kept (w' := (wr.drewN nq).drew) (row := none) ⟨rfl, rfl, rfl, Nat.le_refl _, fun _ _ _ => rfl⟩ (by simp)
              obtain ⟨c, hc⟩ : ∃ c, d.data.toList.getD k 0 = c := ⟨_, rfl⟩
              have hcd : d[k]'hkd = c := by rw [← hc]; exact getD_bytes hkd
              have hlen := (layK_len s x d.data.toList k).trans HS.out.len
              have hz := HS.out.size
              refine wpList_mapUpdate_own _ rfl _ _ _ 53 rfl 22 5 u32law Try.underlying53 _ M _ D rfl hown' ?ca _ _ _ rfl rfl (Maps.keyOf_int_mk Try.underlying22 (WalkArith.wf_u32 (by omega))) (.lit (.int .u8 (c.toNat : Int))) [] ?cb ?_
              case ca =>
                have h1 := List.countP_le_length (p := Option.isSome) (l := layK s x d.data.toList k)
                have h2 := HD.out.size
                unfold maxLen
                omega
              case cb =>
                rw [hcd]
                have := c.toNat_lt
                exact plainElem_int Try.underlying5 (wf_u8 (by omega))
              intro w1 hown1 hg1
              go_wp2_with fail
              refine PutRel.at hkd ?_ ((HO.out.drewN nq).drew.then (Out.of_grown hg1 fun j e => by injection e with e; exact e.symm))
              have hq := HQK.out
              rw [HLAY.out, hc, lay1_new c1 hl (fun _ => c3)]
              refine ⟨hget_grown hq.cells (w := (wr.drewN nq).drew) hg1 (by simp; exact hq.ne), ⟨_, World.ownsMap.fit_size hown1, ?_⟩, ?_, hq.ne, hq.rp, hq.rm, hq.enr, hq.fin⟩
              · have h1 := HD.out.put (c := c) hNl hnx (by rw [hA]; have := win_size HS.out; omega) (by rw [hA, hl]; rfl)
                rw [hA] at h1
                exact h1
              · exact hq.ready.keep fun g o hg ho => hget_grown (w := (wr.drewN nq).drew) ho hg1 (by intro e; injection e with e; subst e; exact hq.rm hg)
          · rw [decide_eq_false c3] at hin2
            go_wp2_with fail
            go_quiet ((go_at_call 16; first | with_reducible exact Calls.quiet_of_same (rsame (hin _).out) | with_reducible exact Calls.quiet_of_same (rsame (hin2 _).out)))
            go_wp2_with fail
            refine PutRel.at hkd ?_ (HO.out.drewN _)
            rw [HLAY.out, lay1_end HE.out c3]
            exact HQK.out.dr ⟨_, rfl⟩
      · have hin := fun nq => hid (in_any N s.next s.win (wr.drewN nq) hnx)
        rw [hA, decide_eq_false c1] at hin
        go_wp2_with fail
        go_quiet ((go_at_call 16; exact Calls.quiet_of_same (rsame (hin _).out)))
        go_wp2_with fail
        refine PutRel.at hkd ?_ (HO.out.drewN _)
        rw [HLAY.out, lay1_out c1]
        exact HQK.out.dr ⟨_, rfl⟩
    · have hk' : k = d.size := by omega
      have hlt : decide ((k : Int) < d.size) = false := decide_eq_false (by omega)
      subst hk'
      have hE : ((x : Int) + d.size) % 4294967296 = (((x + d.size) % 4294967296 : Nat) : Int) := by omega
      have hEl : (x + d.size) % 4294967296 < 4294967296 := Nat.mod_lt _ (by decide)
      have hlist : d.data.toList.length = d.size := by simp
      have HNO := hid (show (s.ended || decide (65536 < d.data.toList.length)) = false by rw [hne, hlist]; simpa using hd)
      have HW1 := hid (show ((s.win : Int) + 1) = ((s.win + 1 : Nat) : Int) by omega)
      have HLD := hid (fun f => show laid s x d.data.toList f = { s with held := layK s x d.data.toList d.size, hasEnd := s.hasEnd || ends s (layK s x d.data.toList d.size) (ofs ((x + d.size) % 4294967296) s.next) f, endo := if ends s (layK s x d.data.toList d.size) (ofs ((x + d.size) % 4294967296) s.next) f = true then ofs ((x + d.size) % 4294967296) s.next else s.endo } by unfold laid; rw [hlist])
      generalize (x + d.size) % 4294967296 = E at *
      have HO1 := hid (ho.mono (ex' := QEx P M rv) fun j _ e => .inr (.inl e))
      have HQK := hid hq
      clear hq ho hlist hD hown
      cases f
      · have HQL := hid (show QAt wr P M rv en (laid s x d.data.toList false) by
          have h := HQK.out
          rw [HLD.out]
          simpa [ends] using h)
        have HOL := HO1
        go_wp2_with fail
        refine (moves_any HQL.out (inv_laid HS.out hne x d.data.toList false) hne).mono ?_
        rintro r w2 ⟨rfl, rv', hq2, ho2, hn2⟩
        have g2 := hq2.cells
        have hput : put s x d.data.toList false = FL.move (laid s x d.data.toList false) := put_eq HNO.out
        have htook : took s x d.data.toList false = ((put s x d.data.toList false).next != s.next) := by unfold took; rw [if_neg (by rw [HNO.out]; exact Bool.noConfusion)]
        rw [← hput] at g2 hq2
        clear hput
        have cP0 : w2.cell? ⟨P, 0, none⟩ = some (.int .u32 ((put s x d.data.toList false).next : Int)) := cell_at g2 0
        have HQ2 := hid hq2
        have HTOOK := hid htook
        clear hq2 htook g2
        obtain ⟨nn, hnn⟩ : ∃ nn, (put s x d.data.toList false).next = nn := ⟨_, rfl⟩
        rw [hnn] at cP0
        go_wp2_with fail
        go_ret
        refine ⟨?_, rv', _, HQ2.out, HOL.out.then ho2, ?_⟩
        · rw [HTOOK.out, hnn]
          show Ending.returned (Value.bool ((nn : Int) != (s.next : Int))) = _
          rw [bne_cast]
        · rcases hn2 with h | ⟨g, h, h2⟩
          · exact .inl h
          · exact .inr ⟨g, h, Nat.le_trans HOL.out.size h2⟩
      · cases he : s.hasEnd
        · have hI := inv_laid HS.out hne x d.data.toList false
          rw [HLD.out] at hI
          have HI := hid (show Inv { s with held := layK s x d.data.toList d.size } by simpa [ends] using hI)
          clear hI
          have hin := in_any E s.next (s.win + 1) wr hnx
          rw [← HW1.out] at hin
          have HIN := hid hin
          clear hin
          rw [he] at cP4
          by_cases hc : ofs E s.next < s.win + 1
          · rw [decide_eq_true hc] at HIN
            have hfr := free_any HQK.out HI.out E hEl
            cases ha : ((layK s x d.data.toList d.size).drop (ofs E s.next)).all Option.isNone
            · change Calls _ _ _ _ fun r w' => r = .returned (.bool (((layK s x d.data.toList d.size).drop (ofs E s.next)).all Option.isNone)) ∧ _ at hfr
              rw [ha] at hfr
              have HFR := hid hfr
              have HEND := hid (show ends s (layK s x d.data.toList d.size) (ofs E s.next) true = false by unfold ends; rw [ha]; simp)
              clear hfr ha he
              go_wp2_with (go_at_call 16; refine HIN.out.mono ?_; rintro e w' ⟨rfl, rfl⟩)
              refine HFR.out.mono ?_
              rintro e w1 ⟨rfl, hb1⟩
              have HQL := hid (show QAt w1 P M rv en (laid s x d.data.toList true) by
                have h := HQK.out.below hb1
                rw [HLD.out, HEND.out]
                simpa using h)
              have HOL := hid (HO1.out.then (Out.of_below hb1))
              clear hb1
              go_wp2_with fail
              refine (moves_any HQL.out (inv_laid HS.out hne x d.data.toList true) hne).mono ?_
              rintro r w2 ⟨rfl, rv', hq2, ho2, hn2⟩
              have g2 := hq2.cells
              have hput : put s x d.data.toList true = FL.move (laid s x d.data.toList true) := put_eq HNO.out
              have htook : took s x d.data.toList true = ((put s x d.data.toList true).next != s.next) := by unfold took; rw [if_neg (by rw [HNO.out]; exact Bool.noConfusion)]
              rw [← hput] at g2 hq2
              clear hput
              have cP0 : w2.cell? ⟨P, 0, none⟩ = some (.int .u32 ((put s x d.data.toList true).next : Int)) := cell_at g2 0
              have HQ2 := hid hq2
              have HTOOK := hid htook
              clear hq2 htook g2
              obtain ⟨nn, hnn⟩ : ∃ nn, (put s x d.data.toList true).next = nn := ⟨_, rfl⟩
              rw [hnn] at cP0
              go_wp2_with fail
              go_ret
              refine ⟨?_, rv', _, HQ2.out, HOL.out.then ho2, ?_⟩
              · rw [HTOOK.out, hnn]
                show Ending.returned (Value.bool ((nn : Int) != (s.next : Int))) = _
                rw [bne_cast]
              · rcases hn2 with h | ⟨g, h, h2⟩
                · exact .inl h
                · exact .inr ⟨g, h, Nat.le_trans HOL.out.size h2⟩
            · change Calls _ _ _ _ fun r w' => r = .returned (.bool (((layK s x d.data.toList d.size).drop (ofs E s.next)).all Option.isNone)) ∧ _ at hfr
              rw [ha] at hfr
              have HFR := hid hfr
              have HEND := hid (show ends s (layK s x d.data.toList d.size) (ofs E s.next) true = true by unfold ends; rw [ha, he, decide_eq_true hc]; rfl)
              clear hfr ha he
              go_wp2_with (go_at_call 16; refine HIN.out.mono ?_; rintro e w' ⟨rfl, rfl⟩)
              refine HFR.out.mono ?_
              rintro e w1 ⟨rfl, hb1⟩
              have hq1 := HQK.out.below hb1
              have g1 := hq1.cells
              clear cP0 cP1 cP2 cP3 cP4 cP5 cP6 fP
              have cP0 : w1.cell? ⟨P, 0, none⟩ = some (.int .u32 _) := cell_at g1 0
              have cP1 : w1.cell? ⟨P, 1, none⟩ = some (.int .i64 _) := cell_at g1 1
              have cP2 : w1.cell? ⟨P, 2, none⟩ = some rv := cell_at g1 2
              have cP3 : w1.cell? ⟨P, 3, none⟩ = some (.map (some M)) := cell_at g1 3
              have cP4 : w1.cell? ⟨P, 4, none⟩ = some (.bool _) := cell_at g1 4
              have cP5 : w1.cell? ⟨P, 5, none⟩ = some (.int .u32 _) := cell_at g1 5
              have cP6 : w1.cell? ⟨P, 6, none⟩ = some (.bool _) := cell_at g1 6
              have fP := free_at g1
              have HQ1 := hid hq1
              have HOL := hid (((HO1.out.then (Out.of_below hb1)).setCell (p := ⟨P, 4, none⟩) (.inl (.inl rfl)) (.bool true)).setCell (p := ⟨P, 5, none⟩) (.inl (.inl rfl)) (.int .u32 (E : Int)))
              clear hb1 hq1
              go_wp2_with fail
              have HQL := hid (show QAt ((w1.setCell ⟨P, 4, none⟩ (.bool true)).setCell ⟨P, 5, none⟩ (.int .u32 (E : Int))) P M rv (E : Int) (laid s x d.data.toList true) by
                rw [HLD.out, HEND.out, Bool.or_true]
                have h := HQ1.out
                obtain ⟨D1, h1, h2⟩ := h.own
                exact ⟨hget_setCell (hget_setCell h.cells 4 (.bool true)) 5 (.int .u32 (E : Int)), ⟨D1, (h1.setCell (a := ⟨P, 4, none⟩) (Ne.symm h.ne) _).setCell (a := ⟨P, 5, none⟩) (Ne.symm h.ne) _, h2⟩,
                  h.ready.keep fun g o hg ho => hget_setCell_ne (hget_setCell_ne ho (fun e => h.rp (by rw [hg, e])) _) (fun e => h.rp (by rw [hg, e])) _,
                  h.ne, h.rp, h.rm, by omega, fun _ _ => ⟨E, rfl, by rw [if_pos rfl]⟩⟩)
              refine (moves_any HQL.out (inv_laid HS.out hne x d.data.toList true) hne).mono ?_
              rintro r w2 ⟨rfl, rv', hq2, ho2, hn2⟩
              have g2 := hq2.cells
              have hput : put s x d.data.toList true = FL.move (laid s x d.data.toList true) := put_eq HNO.out
              have htook : took s x d.data.toList true = ((put s x d.data.toList true).next != s.next) := by unfold took; rw [if_neg (by rw [HNO.out]; exact Bool.noConfusion)]
              rw [← hput] at g2 hq2
              clear hput
              have cP0 : w2.cell? ⟨P, 0, none⟩ = some (.int .u32 ((put s x d.data.toList true).next : Int)) := cell_at g2 0
              have HQ2 := hid hq2
              have HTOOK := hid htook
              clear hq2 htook g2
              obtain ⟨nn, hnn⟩ : ∃ nn, (put s x d.data.toList true).next = nn := ⟨_, rfl⟩
              rw [hnn] at cP0
              go_wp2_with fail
              go_ret
              refine ⟨?_, rv', _, HQ2.out, HOL.out.then ho2, ?_⟩
              · rw [HTOOK.out, hnn]
                show Ending.returned (Value.bool ((nn : Int) != (s.next : Int))) = _
                rw [bne_cast]
              · rcases hn2 with h | ⟨g, h, h2⟩
                · exact .inl h
                · exact .inr ⟨g, h, Nat.le_trans HOL.out.size h2⟩
          · rw [decide_eq_false hc] at HIN
            have HQL := hid (show QAt wr P M rv en (laid s x d.data.toList true) by
              have h := HQK.out
              rw [HLD.out]
              simpa [ends, hc] using h)
            have HOL := HO1
            clear he
            go_wp2_with (go_at_call 16; refine HIN.out.mono ?_; rintro e w' ⟨rfl, rfl⟩)
            refine (moves_any HQL.out (inv_laid HS.out hne x d.data.toList true) hne).mono ?_
            rintro r w2 ⟨rfl, rv', hq2, ho2, hn2⟩
            have g2 := hq2.cells
            have hput : put s x d.data.toList true = FL.move (laid s x d.data.toList true) := put_eq HNO.out
            have htook : took s x d.data.toList true = ((put s x d.data.toList true).next != s.next) := by unfold took; rw [if_neg (by rw [HNO.out]; exact Bool.noConfusion)]
            rw [← hput] at g2 hq2
            clear hput
            have cP0 : w2.cell? ⟨P, 0, none⟩ = some (.int .u32 ((put s x d.data.toList true).next : Int)) := cell_at g2 0
            have HQ2 := hid hq2
            have HTOOK := hid htook
            clear hq2 htook g2
            obtain ⟨nn, hnn⟩ : ∃ nn, (put s x d.data.toList true).next = nn := ⟨_, rfl⟩
            rw [hnn] at cP0
            go_wp2_with fail
            go_ret
            refine ⟨?_, rv', _, HQ2.out, HOL.out.then ho2, ?_⟩
            · rw [HTOOK.out, hnn]
              show Ending.returned (Value.bool ((nn : Int) != (s.next : Int))) = _
              rw [bne_cast]
            · rcases hn2 with h | ⟨g, h, h2⟩
              · exact .inl h
              · exact .inr ⟨g, h, Nat.le_trans HOL.out.size h2⟩
        · have HQL := hid (show QAt wr P M rv en (laid s x d.data.toList true) by
            have h := HQK.out
            rw [HLD.out]
            simpa [ends, he] using h)
          have HOL := HO1
          rw [he] at cP4
          clear he
          go_wp2_with fail
          refine (moves_any HQL.out (inv_laid HS.out hne x d.data.toList true) hne).mono ?_
          rintro r w2 ⟨rfl, rv', hq2, ho2, hn2⟩
          have g2 := hq2.cells
          have hput : put s x d.data.toList true = FL.move (laid s x d.data.toList true) := put_eq HNO.out
          have htook : took s x d.data.toList true = ((put s x d.data.toList true).next != s.next) := by unfold took; rw [if_neg (by rw [HNO.out]; exact Bool.noConfusion)]
          rw [← hput] at g2 hq2
          clear hput
          have cP0 : w2.cell? ⟨P, 0, none⟩ = some (.int .u32 ((put s x d.data.toList true).next : Int)) := cell_at g2 0
          have HQ2 := hid hq2
          have HTOOK := hid htook
          clear hq2 htook g2
          obtain ⟨nn, hnn⟩ : ∃ nn, (put s x d.data.toList true).next = nn := ⟨_, rfl⟩
          rw [hnn] at cP0
          go_wp2_with fail
          go_ret
          refine ⟨?_, rv', _, HQ2.out, HOL.out.then ho2, ?_⟩
          · rw [HTOOK.out, hnn]
            show Ending.returned (Value.bool ((nn : Int) != (s.next : Int))) = _
            rw [bne_cast]
          · rcases hn2 with h | ⟨g, h, h2⟩
            · exact .inl h
            · exact .inr ⟨g, h, Nat.le_trans HOL.out.size h2⟩
end
end Go.Proofs.Ytkmkgfgppblleaa
