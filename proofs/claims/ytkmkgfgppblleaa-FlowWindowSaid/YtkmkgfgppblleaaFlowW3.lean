/- The queue's moves: what is held next is ready. -/
import Derived.Test.YtkmkgfgppblleaaFlowW2
namespace Go.Proofs.Ytkmkgfgppblleaa
open Go.RowKit FL

namespace FL
/-- Behind k bytes that were moved. -/
def mid (s : FS) (k : Nat) : FS := { s with next := at' s.next k, ready := s.ready ++ bytes (s.held.take k), held := s.held.drop k, endo := s.endo - k }
theorem ofs_step {e n m k : Nat} (he : e < 4294967296) (hn : n < 4294967296) (h : ofs e n = m) (hk : k ≤ m) : ofs e (at' n k) = m - k := by unfold at'; unfold ofs at *; omega
theorem ofs_zero {e n : Nat} (he : e < 4294967296) (hn : n < 4294967296) : ofs e n = 0 ↔ e = n := by unfold ofs; omega
theorem at_succ {n k : Nat} : at' n (k + 1) = (at' n k + 1) % 4294967296 := by unfold at'; omega
theorem at_zero {n : Nat} (hn : n < 4294967296) : at' n 0 = n := by unfold at'; omega
theorem bytes_snoc {l : List (Option UInt8)} {k : Nat} {c : UInt8} (h : l.getD k none = some c) : bytes (l.take (k + 1)) = bytes (l.take k) ++ [c] := by
  have hk : k < l.length := getD_some (by rw [h]; rfl)
  rw [List.getD_eq_getElem?_getD, List.getElem?_eq_getElem hk] at h
  rw [List.take_succ_eq_append_getElem hk]
  unfold bytes
  rw [List.filterMap_append]
  congr 1
  simp only [List.filterMap_cons, List.filterMap_nil, id]
  rw [show l[k] = some c from h]
theorem drop_cons {l : List (Option UInt8)} {k : Nat} {c : UInt8} (h : l.getD k none = some c) : l.drop k = some c :: l.drop (k + 1) := by
  have hk : k < l.length := getD_some (by rw [h]; rfl)
  rw [List.getD_eq_getElem?_getD, List.getElem?_eq_getElem hk] at h
  rw [List.drop_eq_getElem_cons hk, show l[k] = some c from h]
end FL

/-- What a look-up hands back. -/
def byteAt : Option UInt8 → Int
  | some c => (c.toNat : Int)
  | none => 0
theorem look_run {w : World} {M n nx : Nat} {D : Dt} {l : List (Option UInt8)} (hown : w.ownsMap Try.prog 22 (plainElem (H := Unit) Try.prog 5) M n D) (hD : FMap D nx l) {x : Nat} (hx : x < 4294967296) :
    (Instr.lookup 53 (.map (some M)) (.int .u32 (x : Int)) true).run Try.prog w = .ok (.tuple #[.int .u8 (byteAt (l.getD (ofs x nx) none)), .bool (l.getD (ofs x nx) none).isSome]) w := by
  have hkw : (Lit.int .u32 (x : Int)).wf = true := WalkArith.wf_u32 (by omega)
  obtain ⟨v, ps, hrun, hv⟩ := hown.look_ok u32law Try.underlying53 (zero8 _) (plainElem_int Try.underlying5 (by decide)) (Maps.keyOf_int_mk Try.underlying22 hkw)
  change (Instr.lookup _ _ _ _).run _ _ = .ok (.tuple #[v, .bool (Maps.has D (key x))]) _ at hrun
  change plainElem _ _ v = some (D.atKey (key x) _, ps) at hv
  rw [hD.has x hx] at hrun
  rw [hrun]
  cases hc : l.getD (ofs x nx) none with
  | some c =>
    rw [hD.val x c hx hc] at hv
    obtain ⟨a, rfl, ha, _⟩ := plainElem_int_inv Try.underlying5 hv
    simp only [Prod.mk.injEq, DataW.lit.injEq, Lit.int.injEq, true_and] at ha
    rw [← ha.1]; rfl
  | none =>
    rw [Maps.atKey_of_not_has (by rw [hD.has x hx, hc]; rfl)] at hv
    obtain ⟨a, rfl, ha, _⟩ := plainElem_int_inv Try.underlying5 hv
    simp only [Prod.mk.injEq, DataW.lit.injEq, Lit.int.injEq, true_and] at ha
    rw [← ha.1]; rfl

theorem World.ownsMap.fit_size {H : Type} {P : Program} {k : TypeId} {R : Value → Option (DataW H × List MemPlace)} {w : World} {b n : Nat} {D : DataW H} (h : w.ownsMap P k R b n D) : w.ownsMap P k R b (Maps.size D) D := by
  obtain ⟨es, clock, hb, F, _, rfl⟩ := h
  have e1 : Maps.size (DataW.map ((es.toList.map (WideElems.rg P k R)).foldr DataW.insert [])) = es.size := by simp [Maps.size, length_sorted]
  exact ⟨es, clock, hb, F, by rw [e1]; exact Nat.le_refl _, rfl⟩

/-- The bytes' row lies where it lay, or in a new block. -/
def Near (w : World) (rv rv' : Value) : Prop := rv'.ownBlock = rv.ownBlock ∨ ∃ g, rv'.ownBlock = some g ∧ w.heap.size ≤ g

section
variable {w : World} {P M : Nat} {rv : Value} {en : Int} {s : FS}
set_option maxHeartbeats 2000000 in
theorem moves_any (hq : QAt w P M rv en s) (hs : Inv s) (hne : s.ended = false) : Calls Try.prog 28 #[.pointer (some ⟨P, 0, none⟩)] w fun r w' => r = .returned (.tuple #[]) ∧ ∃ rv', QAt w' P M rv' en (FL.move s) ∧ Out (QEx P M rv) w w' ∧ Near w rv rv' := by
  have HQ := hid hq
  have HS := hid hs
  have hPw := hget_lt hq.cells
  have hMw := hq.lt M (.inr (.inl rfl))
  have hln := lead_le s.held
  have hb := lead_some s.held
  have hstop := lead_stop s.held
  generalize hn : lead s.held = n at *
  have q0 : QAt w P M rv en (mid s 0) := by
    have : mid s 0 = s := by unfold mid; rw [at_zero hs.next]; simp [FL.bytes]
    rw [this]; exact hq
  clear hq
  go_enter Try.func28, Try.ntmps28
  go_wp2_with fail
  go_loopg [] (n + 1) (fun g wr => ∃ (k : Nat) (rk : Value), k + g = n + 1 ∧ 0 < g ∧ QAt wr P M rk en (mid s k) ∧ Out (QEx P M rv) w wr ∧ Near w rv rk)
  case atStart => exact ⟨0, rv, by omega, by omega, q0, Out.refl _ _, .inl rfl⟩
  case round =>
    obtain ⟨k, rk, hk, hg, hq, ho, hnear⟩ := hrel
    have hk' : k ≤ n := by omega
    have gP : hget wr P = some (.cells #[.int .u32 ((at' s.next k : Nat) : Int), .int .i64 (s.size : Int), rk, .map (some M), .bool s.hasEnd, .int .u32 en, .bool s.ended] 55 (0, 0)) := hq.cells
    rw [hne] at gP
    have cP0 : wr.cell? ⟨P, 0, none⟩ = some (.int .u32 _) := cell_at gP 0
    have cP1 : wr.cell? ⟨P, 1, none⟩ = some (.int .i64 _) := cell_at gP 1
    have cP2 : wr.cell? ⟨P, 2, none⟩ = some _ := cell_at gP 2
    have cP3 : wr.cell? ⟨P, 3, none⟩ = some (.map (some M)) := cell_at gP 3
    have cP4 : wr.cell? ⟨P, 4, none⟩ = some (.bool _) := cell_at gP 4
    have cP5 : wr.cell? ⟨P, 5, none⟩ = some (.int .u32 _) := cell_at gP 5
    have cP6 : wr.cell? ⟨P, 6, none⟩ = some (.bool _) := cell_at gP 6
    have fP := free_at gP
    obtain ⟨D, hown, hD⟩ := hq.own
    change FMap D (at' s.next k) (s.held.drop k) at hD
    have hnk := at_lt s.next k
    have e0 : (s.held.drop k).getD (ofs (at' s.next k) (at' s.next k)) none = s.held.getD k none := by
      rw [ofs_self hnk]
      simp only [List.getD_eq_getElem?_getD, List.getElem?_drop, Nat.add_zero]
    have hrun := fun nq => look_run (w := wr.drewN nq) (hown.kept (row := none) ⟨rfl, rfl, rfl, Nat.le_refl _, fun _ _ _ => rfl⟩ (by simp)) hD hnk
    rw [e0] at hrun
    by_cases hkn : k < n
    · obtain ⟨c, hc⟩ := Option.isSome_iff_exists.1 (hb k hkn)
      rw [hc] at hrun
      simp only [byteAt, Option.isSome_some] at hrun
      have HD := hid hD
      have HOWN := hid hown
      have HQK := hid hq
      have HO := hid ho
      have HNE := hid hnear
      clear hD hown hq ho hnear e0
      go_wp2_with fail
      go_quiet (fail)
      go_wp2_with fail
      refine still_tail 8 (by kernel_rfl) (by kernel_rfl) ?_
      simp only [List.take_succ_cons, List.take_zero, List.drop_succ_cons, List.drop_zero]
      repeat (first | (refine wpStill_step (fun K hK => ?_); go_simp; refine hK _ ?_; clear hK K; try go_ints))
      refine wpStill_nil ?_
      have hown' := HOWN.out.kept (w' := (wr.drewN nq).drew) (row := none) ⟨rfl, rfl, rfl, Nat.le_refl _, fun _ _ _ => rfl⟩ (by simp)
      refine wpList_delete_own _ rfl _ _ 53 22 rfl 5 u32law Try.underlying53 _ M _ D rfl hown' _ _ rfl (Maps.keyOf_int_mk Try.underlying22 (WalkArith.wf_u32 (by omega))) ?_
      intro w1 hown1 hturn1
      have hPM := HQ.out.ne
      have hg1 := hturn1.grown
      have g1 : hget w1 P = _ := hget_grown (show hget (wr.drewN nq).drew P = _ from gP) hg1 (by simp; exact hPM)
      have hrd : OwnsQ (w1.alloc (.cells #[.int .u8 (c.toNat : Int)] 5)) rk (s.ready ++ FL.bytes (s.held.take k)) :=
        HQK.out.ready.keep fun g o hg ho => hget_grown (hget_grown (show hget (wr.drewN nq).drew g = _ from ho) hg1 (by rintro e; injection e with e; subst e; exact HQK.out.rm hg)) (World.grownBy_alloc w1 _ none) (by simp)
      have HOWN1 := hid hown1
      have HTURN := hid hturn1
      have HG1 := hid hg1
      have HRD := hid hrd
      clear hown1 hturn1 hg1 hrd hown' hrun cP0 cP1 cP2 cP3 cP4 cP5 cP6 fP
      have cP0 : w1.cell? ⟨P, 0, none⟩ = some (.int .u32 _) := cell_at g1 0
      have cP1 : w1.cell? ⟨P, 1, none⟩ = some (.int .i64 _) := cell_at g1 1
      have cP2 : w1.cell? ⟨P, 2, none⟩ = some _ := cell_at g1 2
      have cP3 : w1.cell? ⟨P, 3, none⟩ = some (.map (some M)) := cell_at g1 3
      have cP4 : w1.cell? ⟨P, 4, none⟩ = some (.bool _) := cell_at g1 4
      have cP5 : w1.cell? ⟨P, 5, none⟩ = some (.int .u32 _) := cell_at g1 5
      have cP6 : w1.cell? ⟨P, 6, none⟩ = some (.bool _) := cell_at g1 6
      have fP := free_at g1
      have hsrc := Src.ofSlice (P := Try.prog) (size := 1) (w := w1.alloc (.cells #[.int .u8 (c.toNat : Int)] 5)) Try.underlying24 ⟨w1.heap.size, 0, none⟩ 1 1 (u8s [c]) rfl (cell_one_new _ _ _) (by simp [u8s, Value.oneCell'])
      obtain ⟨i0, hi, hz0, hz1, hz2⟩ := info_parts info_u8
      have HSRC := hid hsrc
      have hln1 := HS.out.room
      clear hsrc
      go_wp2_with (at_builtin; refine wpList_append_Q rfl _ _ 24 24 rfl i0 Try.underlying24 hi hz0 hz1 hz2 _ _ rfl rfl _ [c] HRD.out HSRC.out (Nat.succ_pos 0) ?ca ?_)
      case ca =>
        have h1 := HS.out.len
        have h2 := HS.out.size
        have h3 : (FL.bytes (s.held.take k)).length ≤ s.held.length := by
          unfold FL.bytes
          exact Nat.le_trans (List.length_filterMap_le _ _) (by rw [List.length_take]; omega)
        simp only [List.length_append, List.length_cons, List.length_nil]
        omega
      intro v' w2 hq2 hg2 hn2
      obtain ⟨va, vl, vc, hvs⟩ : ∃ a n c, v' = .slice a n c := by obtain ⟨a, c, h, _⟩ := hq2.shape; exact ⟨_, _, _, h⟩
      subst hvs
      have hrkP : rk.ownBlock ≠ some P := HQK.out.rp
      have hrkM : rk.ownBlock ≠ some M := HQK.out.rm
      have g2 : hget w2 P = _ := hget_grown (hget_grown g1 (World.grownBy_alloc w1 (.cells #[.int .u8 (c.toNat : Int)] 5) none) (by simp)) hg2 (fun e => hrkP e.symm)
      have hv' : (Value.slice va vl vc).ownBlock = rk.ownBlock ∨ (Value.slice va vl vc).ownBlock = some (w1.heap.size + 1) := by
        rcases hn2 with h | h
        · exact .inl h
        · right; exact h
      have hw1 : w.heap.size ≤ w1.heap.size := Nat.le_trans HO.out.size HG1.out.size
      have hvP : (Value.slice va vl vc).ownBlock ≠ some P := by
        rcases hv' with h | h <;> rw [h]
        · exact hrkP
        · simp; omega
      have hvM : (Value.slice va vl vc).ownBlock ≠ some M := by
        rcases hv' with h | h <;> rw [h]
        · exact hrkM
        · simp; omega
      have HQ2 := hid hq2
      have HG2 := hid hg2
      have HV := hid hv'
      have HVP := hid hvP
      have HVM := hid hvM
      clear hq2 hg2 hn2 hv' hvP hvM hrkP hrkM cP0 cP1 cP2 cP3 cP4 cP5 cP6 fP
      have cP0 : w2.cell? ⟨P, 0, none⟩ = some (.int .u32 _) := cell_at g2 0
      have cP1 : w2.cell? ⟨P, 1, none⟩ = some (.int .i64 _) := cell_at g2 1
      have cP2 : w2.cell? ⟨P, 2, none⟩ = some _ := cell_at g2 2
      have cP3 : w2.cell? ⟨P, 3, none⟩ = some (.map (some M)) := cell_at g2 3
      have cP4 : w2.cell? ⟨P, 4, none⟩ = some (.bool _) := cell_at g2 4
      have cP5 : w2.cell? ⟨P, 5, none⟩ = some (.int .u32 _) := cell_at g2 5
      have cP6 : w2.cell? ⟨P, 6, none⟩ = some (.bool _) := cell_at g2 6
      have fP := free_at g2
      go_wp2_with fail
      go_roundg (gk - 1)
      case measure => omega
      case rel =>
        refine ⟨k + 1, .slice va vl vc, by omega, by omega, ?_, ?_, ?_⟩
        · have e1 : (((at' s.next k : Nat) : Int) + 1) % 4294967296 = ((at' s.next (k + 1) : Nat) : Int) := by rw [at_succ]; omega
          have hM2 : w2.ownsMap Try.prog 22 (plainElem (H := Unit) Try.prog 5) M (Maps.size D) (D.del (key (at' s.next k))) := (HOWN1.out.alloc _).kept HG2.out (fun e => HQK.out.rm e.symm)
          have hM3 := (hM2.setCell (a := ⟨P, 2, none⟩) (Ne.symm hPM) (.slice va vl vc)).setCell (a := ⟨P, 0, none⟩) (Ne.symm hPM) (.int .u32 ((((at' s.next k : Nat) : Int) + 1) % 4294967296))
          have hD1 : FMap (D.del (key (at' s.next k))) (at' s.next (k + 1)) (s.held.drop (k + 1)) := by
            have h1 := HD.out
            rw [drop_cons hc] at h1
            have h2 := h1.del hnk (by rw [List.length_drop]; have := HS.out.len; have := HS.out.size; omega)
            rw [← at_succ] at h2
            exact h2
          have hgP := hget_setCell (hget_setCell g2 2 (.slice va vl vc)) 0 (.int .u32 ((((at' s.next k : Nat) : Int) + 1) % 4294967296))
          rw [e1] at hgP hM3
          rw [e1]
          refine ⟨?_, ⟨_, World.ownsMap.fit_size hM3, hD1⟩, ?_, hPM, HVP.out, HVM.out, HQK.out.enr, fun he hd => ?_⟩
          · show hget _ P = some (.cells #[.int .u32 ((at' s.next (k + 1) : Nat) : Int), .int .i64 (s.size : Int), .slice va vl vc, .map (some M), .bool s.hasEnd, .int .u32 en, .bool s.ended] 55 (0, 0))
            rw [hne]
            exact hgP
          · have h1 : OwnsQ w2 (.slice va vl vc) (s.ready ++ (FL.bytes (s.held.take k) ++ [c])) := HQ2.out
            rw [← bytes_snoc hc] at h1
            exact h1.keep fun g o hg ho => hget_setCell_ne (hget_setCell_ne ho (fun e => HVP.out (by rw [hg, e])) _) (fun e => HVP.out (by rw [hg, e])) _
          · obtain ⟨e, he1, he2⟩ := HQ.out.fin he hne
            have := HS.out.behind he hne
            have h3 := this.2 k (hb k hkn)
            have := HQ.out.enr
            exact ⟨e, he1, ofs_step (by omega) HS.out.next he2 (by omega)⟩
        · have h1 : Out (QEx P M rv) w w1 := (HO.out.drewN nq).drew.then (Out.of_grown HG1.out fun j e => by injection e with e; subst e; exact .inr (.inl rfl))
          have h2 : Out (QEx P M rv) w w2 := (h1.alloc _).trans (Out.of_grown (ex := fun j => rk.ownBlock = some j) HG2.out fun j e => e) fun j hj e => by
            rcases HNE.out with h | ⟨g, h, hge⟩
            · exact .inr (.inr (by rw [← h]; exact e))
            · rw [h] at e; injection e with e; omega
          exact (h2.setCell (.inl (.inl rfl)) _).setCell (.inl (.inl rfl)) _
        · rcases HV.out with h | h
          · rcases HNE.out with h2 | ⟨g, h2, h3⟩
            · exact .inl (h.trans h2)
            · exact .inr ⟨g, h.trans h2, h3⟩
          · exact .inr ⟨_, h, by omega⟩
    · have hkn' : k = n := by omega
      subst hkn'
      have hnone : s.held.getD k none = none := by cases hc : s.held.getD k none <;> rw [hc] at hstop <;> first | rfl | cases hstop
      rw [hnone] at hrun
      simp only [byteAt, Option.isSome_none] at hrun
      have HD := hid hD
      have HOWN := hid hown
      have HQK := hid hq
      have HO := hid ho
      have HNE := hid hnear
      clear hD hown hq ho hnear e0
      cases he : s.hasEnd
      · rw [he] at cP4
        go_wp2_with fail
        go_quiet (fail)
        go_wp2_with fail
        go_quiet (fail)
        go_wp2_with fail
        go_end0
        refine ⟨rfl, rk, ?_, (HO.out.drewN _).drewN _, HNE.out⟩
        have hmv : FL.move s = { mid s k with held := s.held.drop k ++ List.replicate k none } := by
          unfold FL.move mid
          rw [hn, he]
          simp [at', hne]
        rw [hmv]
        have hq := HQK.out
        exact ⟨hq.cells, ⟨D, HOWN.out, HD.out.pad k⟩, hq.ready, hq.ne, hq.rp, hq.rm, hq.enr, hq.fin⟩
      · obtain ⟨e, he1, he2⟩ := HQ.out.fin he hne
        have hen := HQ.out.enr
        rw [he] at cP4
        rw [he1] at cP5
        by_cases hd : s.endo = k
        · have hb1 : ((e : Int) == ((at' s.next k : Nat) : Int)) = true := by
            rw [beq_iff_eq]
            have := ofs_step (k := k) (by omega) HS.out.next he2 (by omega)
            rw [hd, Nat.sub_self, ofs_zero (by omega) hnk] at this
            omega
          go_wp2_with fail
          go_quiet (fail)
          go_wp2_with fail
          go_quiet (fail)
          go_wp2_with fail
          go_end0
          refine ⟨rfl, rk, ?_, ((HO.out.setCell (p := ⟨P, 6, none⟩) (.inl (.inl rfl)) _).setCell (p := ⟨P, 0, none⟩) (.inl (.inl rfl)) _).drewN _, HNE.out⟩
          have hmv : FL.move s = { mid s k with next := (at' s.next k + 1) % 4294967296, held := s.held.drop k ++ List.replicate k none, ended := true } := by
            unfold FL.move mid
            rw [hn, he, hd]
            simp [at']
          rw [hmv]
          have hq := HQK.out
          have hgP := hget_setCell (hget_setCell gP 6 (.bool true)) 0 (.int .u32 ((((at' s.next k : Nat) : Int) + 1) % 4294967296))
          have e1 : (((at' s.next k : Nat) : Int) + 1) % 4294967296 = (((at' s.next k + 1) % 4294967296 : Nat) : Int) := by omega
          have hM3 := (HOWN.out.setCell (a := ⟨P, 6, none⟩) (Ne.symm hq.ne) (.bool true)).setCell (a := ⟨P, 0, none⟩) (Ne.symm hq.ne) (.int .u32 ((((at' s.next k : Nat) : Int) + 1) % 4294967296))
          rw [e1] at hgP hM3
          rw [e1]
          refine ⟨hgP, ⟨D, hM3, (HD.out.none_any ?_ _).pad k⟩, ?_, hq.ne, hq.rp, hq.rm, hq.enr, fun _ h => by cases h⟩
          · intro i
            cases hx : ((s.held.drop k).getD i none).isSome
            · rfl
            · rw [List.getD_eq_getElem?_getD, List.getElem?_drop, ← List.getD_eq_getElem?_getD] at hx
              have := (HS.out.behind he hne).2 _ hx
              omega
          · exact hq.ready.keep fun g o hg ho => hget_setCell_ne (hget_setCell_ne ho (fun e => hq.rp (by rw [hg, e])) _) (fun e => hq.rp (by rw [hg, e])) _
        · have hb1 : ((e : Int) == ((at' s.next k : Nat) : Int)) = false := by
            rw [beq_eq_false_iff_ne]
            intro h
            have hke : k ≤ s.endo := by
              have := HS.out.behind he hne
              rcases Nat.eq_zero_or_pos k with h0 | h0
              · omega
              · have := this.2 (k - 1) (hb (k - 1) (by omega)); omega
            have := ofs_step (k := k) (by omega) HS.out.next he2 hke
            have h2 := (ofs_zero (e := e) (n := at' s.next k) (by omega) hnk).2 (by omega)
            omega
          go_wp2_with fail
          go_quiet (fail)
          go_wp2_with fail
          go_quiet (fail)
          go_wp2_with fail
          go_end0
          refine ⟨rfl, rk, ?_, (HO.out.drewN _).drewN _, HNE.out⟩
          have hmv : FL.move s = { mid s k with held := s.held.drop k ++ List.replicate k none } := by
            unfold FL.move mid
            rw [hn, he]
            simp [at', hne, hd]
          rw [hmv]
          have hq := HQK.out
          exact ⟨hq.cells, ⟨D, HOWN.out, HD.out.pad k⟩, hq.ready, hq.ne, hq.rp, hq.rm, hq.enr, hq.fin⟩
end
end Go.Proofs.Ytkmkgfgppblleaa
