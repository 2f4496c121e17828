/- The queue's Read. -/
import Derived.Test.YtkmkgfgppblleaaFlowW4
import Derived.Test.YtkmkgfgppblleaaPEEL
namespace Go.Proofs.Ytkmkgfgppblleaa
open Go.RowKit FL

/-- Bytes that are appended to a slice that has no room: a new row, or nothing. -/
theorem run_append_fresh {P : Program} (w : World) (t ty : TypeId) (i : TypeInfo) (ht : P.underlying t = some (.slice 5)) (hi : P.info? 5 = some i) (hz : i.zero = some (.int .u8 0)) (hs1 : i.size = 1) (hb1 : i.bytes = 1)
    (g n c : Nat) (cur : Array Value) (m : List UInt8) (hc : hget w g = some (.cells cur 5 (0, 0))) (hcm : cur.size ≤ maxLen) (hm : ∀ j, j < m.length → w.cell? ⟨g, n + j, none⟩ = some (.int .u8 ((m.getD j 0).toNat : Int))) (hlen : m.length ≤ 140737488355328) :
    ∃ v' w', (Builtin.append_ #[t, t] ty #[.slice (some ⟨g, 0, none⟩) 0 0, .slice (some ⟨g, n, none⟩) m.length c]).run P w = .ok v' w' ∧ OwnsQ w' v' m ∧ Below w.heap.size w w' ∧ (v'.ownBlock = some g ∨ v'.ownBlock = some w.heap.size) := by
  have hsrc : Src P 1 t (.slice (some ⟨g, n, none⟩) m.length c) m.length (u8s m) w := Src.ofSlice (P := P) (size := 1) (tx := t) (w := w) ht ⟨g, n, none⟩ m.length c (u8s m) (by simp [u8s_length]) (fun j u hu => by
    have hj : j < m.length := by have := (List.getElem?_eq_some_iff.1 hu).1; rwa [u8s_length] at this
    rw [Addr.add_mid, hm j hj, ← hu]
    unfold u8s
    simp [hj]) (by unfold u8s; intro u hu; obtain ⟨x, _, rfl⟩ := List.mem_map.1 hu; rfl)
  rcases Nat.eq_zero_or_pos m.length with h0 | h0
  · have hm0 : m = [] := List.eq_nil_of_length_eq_zero h0
    subst hm0
    have hr := run_append_room_src (P := P) w t t ty 5 i ht hi g 0 0 0 _ 0 (u8s []) (by rw [hs1]; exact hsrc) (Nat.le_refl _) (fun j hj => by simp [u8s] at hj) (fun j hj => by simp [u8s] at hj)
    exact ⟨_, _, hr, .inr ⟨g, 0, cur, rfl, hc, Nat.le_refl _, Nat.zero_le _, hcm, by simp [u8s]⟩, Below.refl _ _, .inl rfl⟩
  · obtain ⟨v', w', h1, h2, h3, h4⟩ := run_append_Q (P := P) w t t ty i ht hi hz hs1 hb1 (.slice (some ⟨g, 0, none⟩) 0 0) _ [] m (.inr ⟨g, 0, cur, rfl, hc, Nat.le_refl _, Nat.zero_le _, hcm, by simp [u8s]⟩) hsrc h0 (by simpa using hlen)
    have hr := run_append_grow_src (P := P) w t t ty 5 i (.int .u8 0) ht hi hz (some ⟨g, 0, none⟩) 0 0 [] (by rw [hs1]; simpa using run_firstCells_some (P := P) w.drew 1 0 ⟨g, 0, none⟩ 0 0 [] rfl (fun j u hu => by simp at hu)) _ m.length (u8s m) (by rw [hs1]; exact hsrc) (by omega) (by omega) (by
      rw [hb1, Nat.mul_one]
      have := nextslicecap_le (need := 0 + m.length) (old := 0) (by omega)
      omega)
    rw [h1] at hr
    injection hr with e1 e2
    refine ⟨v', w', h1, by simpa using h2, ?_, by rw [e1]; exact .inr rfl⟩
    rw [e2]
    exact ⟨rfl, rfl, rfl, by simp, fun k hk => heap_alloc_old w.drew _ hk⟩

theorem gOut_append {P : Program} {R : Value → World → Prop} {o : Oper} {a : Act} {w w1 : World} (s x : Operand) (t tx : TypeId) (ho : o.op = .call { callee := .builtin .append, args := #[s, x], argTypes := #[t, tx] }) {v y v' : Value}
    (hv : a.eval s = v) (hy : a.eval x = y) (hr : (Builtin.append_ #[t, tx] o.type #[v, y]).run P w = .ok v' w1) (hb : Below w.heap.size w w1) (hR : R v' w1) : gOut P w R ((execOp a.eval o).run P w) := by
  unfold execOp
  simp only [ho, resolve, invoke, builtin, Sem.run_bind, Sem.run_pure, Result.andThen_ok, List.map_toArray, List.map_cons, List.map_nil, hv, hy, hr]
  exact ⟨hb, hR⟩
theorem conv_nil (w : World) : (convert 24 9 (.slice none 0 0)).run Try.prog w = .ok (.string ⟨#[]⟩) w := by kernel_rfl
theorem app_nil (w : World) : (Builtin.append_ #[24, 24] 24 #[.slice none 0 0, .slice none 0 0]).run Try.prog w = .ok (.slice none 0 0) w := by kernel_rfl

section
variable {w : World} {P M : Nat} {rv : Value} {en : Int} {s : FS}
set_option maxHeartbeats 4000000 in
theorem read_any (hq : QAt w P M rv en s) (hs : Inv s) (most : Int) : Calls Try.prog 11 #[.pointer (some ⟨P, 0, none⟩), .int .i64 most] w fun r w' => r = .returned (.string ⟨(s.ready.take (readN s most)).toArray⟩) ∧ ∃ rv', QAt w' P M rv' en (read s most) ∧ Out (QEx P M rv) w w' ∧ Near w rv rv' := by
  have gP := hq.cells
  have hroom := hs.room
  have hsz := hs.size
  have hN : min (max most 0) (s.ready.length : Int) = ((readN s most : Nat) : Int) := by unfold readN; omega
  have hNl : readN s most ≤ s.ready.length := by unfold readN; omega
  have HRD := hid (show (read s most) = { s with ready := s.ready.drop (readN s most) } from rfl)
  generalize readN s most = N at *
  have HQ := hid hq
  clear hq
  rcases HQ.out.ready with ⟨rfl, hnil⟩ | ⟨g, cap, cur, rfl, hcur, h1, h2, h3, h4⟩
  · have hN1 : min (max most 0) (0 : Int) = 0 := by omega
    rw [hnil] at hNl
    have hN0 : N = 0 := by simpa using hNl
    subst hN0
    have hconv := conv_nil
    have happ := app_nil
    have HNIL := hid hnil
    clear hN hNl hroom hsz hs hnil
    have cP0 : w.cell? ⟨P, 0, none⟩ = some (.int .u32 _) := cell_at gP 0
    have cP1 : w.cell? ⟨P, 1, none⟩ = some (.int .i64 _) := cell_at gP 1
    have cP2 : w.cell? ⟨P, 2, none⟩ = some (.slice none 0 0) := cell_at gP 2
    have cP3 : w.cell? ⟨P, 3, none⟩ = some (.map (some M)) := cell_at gP 3
    have cP4 : w.cell? ⟨P, 4, none⟩ = some (.bool _) := cell_at gP 4
    have cP5 : w.cell? ⟨P, 5, none⟩ = some (.int .u32 _) := cell_at gP 5
    have cP6 : w.cell? ⟨P, 6, none⟩ = some (.bool _) := cell_at gP 6
    have fP := free_at gP
    go_enter Try.func11, Try.ntmps11
    go_wp2_with fail
    refine still_tail 15 (by kernel_rfl) (by kernel_rfl) ?_
    simp only [List.take_succ_cons, List.take_zero, List.drop_succ_cons, List.drop_zero]
    repeat (first | (refine wpStill_step (fun K hK => ?_); go_simp; refine hK _ ?_; clear hK K; try go_ints))
    refine wpStill_nil ?_
    go_wp2_with fail
    go_ret
    rw [HRD.out]
    have hq := HQ.out
    obtain ⟨D, hown, hD⟩ := hq.own
    refine ⟨by simp, .slice none 0 0, ⟨hget_setCell (w := w.drew) gP 2 (.slice none 0 0), ⟨D, World.ownsMap.setCell (w := w.drew) hown (a := ⟨P, 2, none⟩) (Ne.symm hq.ne) _, hD⟩, .inl ⟨rfl, HNIL.out⟩, hq.ne, hq.rp, hq.rm, hq.enr, hq.fin⟩, (Out.refl _ _).drew.setCell (.inl (.inl rfl)) _, .inl rfl⟩
  · have hcells : ∀ j, j < s.ready.length → w.cell? ⟨g, j, none⟩ = some (.int .u8 ((s.ready.getD j 0).toNat : Int)) := fun j hj => by
      rw [cell_at hcur]
      have h5 : cur.toList[j]? = (u8s s.ready)[j]? := by
        have h6 : (cur.toList.take s.ready.length)[j]? = cur.toList[j]? := by rw [List.getElem?_take, if_pos hj]
        rw [← h6, h4]
      rw [← Array.getElem?_toList, h5]
      unfold u8s
      simp [hj]
    have hconv := conv_string w g 0 N cap (s.ready.take N) (by rw [List.length_take]; omega) (fun j hj => by
      rw [Nat.zero_add, hcells j (by omega)]
      simp only [List.getD_eq_getElem?_getD, List.getElem?_take, if_pos hj])
    obtain ⟨n0, hn0, hif⟩ : ∃ n0, (N < s.ready.length → n0 = N) ∧ (if cap = N then some (⟨g, 0, none⟩ : Addr) else some ⟨g, N, none⟩) = some ⟨g, n0, none⟩ := by
      by_cases h : cap = N
      · exact ⟨0, fun h5 => by omega, by rw [if_pos h]⟩
      · exact ⟨N, fun _ => rfl, by rw [if_neg h]⟩
    have happ : ∀ x : Later w, ∃ v' w1, (Builtin.append_ #[24, 24] 24 #[.slice (some ⟨g, 0, none⟩) 0 0, .slice (some ⟨g, n0, none⟩) (s.ready.length - N) (cap - N)]).run Try.prog x.w' = .ok v' w1 ∧ OwnsQ w1 v' (s.ready.drop N) ∧ Below x.w'.heap.size x.w' w1 ∧ (v'.ownBlock = some g ∨ v'.ownBlock = some x.w'.heap.size) := fun x => by
      obtain ⟨i0, hi, hz0, hz1, hz2⟩ := info_parts info_u8
      have h := run_append_fresh (P := Try.prog) x.w' 24 24 i0 Try.underlying24 hi hz0 hz1 hz2 g n0 (cap - N) cur (s.ready.drop N) (later_block hcur x) h3 (fun j hj => by
        rw [List.length_drop] at hj
        rw [hn0 (by omega), later_cell (hcells (N + j) (by omega)) x]
        simp only [List.getD_eq_getElem?_getD, List.getElem?_drop]) (by rw [List.length_drop]; omega)
      rw [List.length_drop] at h
      exact h
    have hgw := hget_lt hcur
    obtain ⟨L, hL⟩ : ∃ L, s.ready.length = L := ⟨_, rfl⟩
    rw [hL] at gP hN hNl h1
    simp only [hL] at happ
    have hcapi : (cap : Int) ≤ 9223372036854775807 := by unfold maxLen at h3; omega
    have HC := hid hcells
    have HAPP := hid happ
    clear hcells h4 happ
    have cP0 : w.cell? ⟨P, 0, none⟩ = some (.int .u32 _) := cell_at gP 0
    have cP1 : w.cell? ⟨P, 1, none⟩ = some (.int .i64 _) := cell_at gP 1
    have cP2 : w.cell? ⟨P, 2, none⟩ = some (.slice (some ⟨g, 0, none⟩) L cap) := cell_at gP 2
    have cP3 : w.cell? ⟨P, 3, none⟩ = some (.map (some M)) := cell_at gP 3
    have cP4 : w.cell? ⟨P, 4, none⟩ = some (.bool _) := cell_at gP 4
    have cP5 : w.cell? ⟨P, 5, none⟩ = some (.int .u32 _) := cell_at gP 5
    have cP6 : w.cell? ⟨P, 6, none⟩ = some (.bool _) := cell_at gP 6
    have fP := free_at gP
    go_enter Try.func11, Try.ntmps11
    go_wp2_with fail
    have jP2 := later_cell cP2
    refine wp_region_gho_last 15 [12] (fun _ u w' => OwnsQ w' u (s.ready.drop N) ∧ (u.ownBlock = some g ∨ ∃ k, u.ownBlock = some k ∧ w.heap.size ≤ k)) (by kernel_rfl) (by kernel_rfl) (by kernel_rfl) (by rfl) (by kernel_rfl) (by rfl) (fun _ u w w' ⟨h1, h2⟩ hb => ⟨h1.keep fun g o _ ho => keepB hb ho, h2⟩) ?_
    simp only [List.take_succ_cons, List.take_zero]
    repeat (first | (refine wpGho_plain (by kernel_rfl) (by decide) (by rfl) (by rfl) (fun K hK => ?_); go_simp; refine hK _ ?_; clear hK K; try go_ints))
    refine wpGho_make (by kernel_rfl) (by decide) (by rfl) (by rfl) (by rfl) (fun K hK => ?_)
    refine ⟨fun x => ?_, hK _ ?_⟩
    · obtain ⟨v', w1, happ, h5, h6, h7⟩ := HAPP.out x
      refine gOut_append _ _ 24 24 rfl rfl rfl happ h6 ⟨h5, ?_⟩
      rcases h7 with h7 | h7
      · exact .inl h7
      · exact .inr ⟨_, h7, x.h.size⟩
    clear hK K
    simp only [Act.put, List.setIfInBounds_toArray, List.set_cons_zero, List.set_cons_succ]
    repeat (first | (refine wpGho_plain (by kernel_rfl) (by decide) (by rfl) (by rfl) (fun K hK => ?_); go_simp; refine hK _ ?_; clear hK K; try go_ints))
    refine wpGho_nil ?_
    intro gg wM hwM hR
    obtain ⟨⟨w8, hM⟩, e8⟩ := hwM
    change wM = w8 at e8
    subst e8
    obtain ⟨h8, h9⟩ := hR 12 (by decide)
    rw [show ∀ a, over _ [12] gg a = Act.put a (some 36) (gg 12) from fun _ => rfl]
    obtain ⟨va, vl, vc, hvs⟩ : ∃ a n c, gg 12 = .slice a n c := by obtain ⟨a, c, h, _⟩ := h8.shape; exact ⟨_, _, _, h⟩
    rw [hvs] at h8 h9 ⊢
    have H8 := hid h8
    have H9 := hid h9
    simp only [Act.put, List.setIfInBounds_toArray, List.set_cons_zero, List.set_cons_succ]
    have gM : hget wM P = _ := later_block gP ⟨_, hM⟩
    have HM := hid hM
    clear cP0 cP1 cP2 cP3 cP4 cP5 cP6 fP h8 h9 hR hM jP2
    have cP0 : wM.cell? ⟨P, 0, none⟩ = some (.int .u32 _) := cell_at gM 0
    have cP1 : wM.cell? ⟨P, 1, none⟩ = some (.int .i64 _) := cell_at gM 1
    have cP2 : wM.cell? ⟨P, 2, none⟩ = some (.slice (some ⟨g, 0, none⟩) L cap) := cell_at gM 2
    have cP3 : wM.cell? ⟨P, 3, none⟩ = some (.map (some M)) := cell_at gM 3
    have cP4 : wM.cell? ⟨P, 4, none⟩ = some (.bool _) := cell_at gM 4
    have cP5 : wM.cell? ⟨P, 5, none⟩ = some (.int .u32 _) := cell_at gM 5
    have cP6 : wM.cell? ⟨P, 6, none⟩ = some (.bool _) := cell_at gM 6
    have fP := free_at gM
    go_wp2_with fail
    go_ret
    rw [HRD.out]
    have hq := HQ.out
    have hqM := hq.below HM.out
    obtain ⟨D, hown, hD⟩ := hqM.own
    have hg : (Value.slice (some ⟨g, 0, none⟩) s.ready.length cap).ownBlock = some g := rfl
    have hgP : g ≠ P := fun e => hq.rp (by rw [hg, e])
    have hgM : g ≠ M := fun e => hq.rm (by rw [hg, e])
    have hPw := hget_lt hq.cells
    have hMw := hq.lt M (.inr (.inl rfl))
    have hvP : (Value.slice va vl vc).ownBlock ≠ some P := by
      rcases H9.out with h | ⟨k, h, h'⟩ <;> rw [h]
      · simp; exact hgP
      · simp; omega
    have hvM : (Value.slice va vl vc).ownBlock ≠ some M := by
      rcases H9.out with h | ⟨k, h, h'⟩ <;> rw [h]
      · simp; exact hgM
      · simp; omega
    refine ⟨rfl, .slice va vl vc, ⟨hget_setCell gM 2 (.slice va vl vc), ⟨D, hown.setCell (a := ⟨P, 2, none⟩) (Ne.symm hq.ne) _, hD⟩, ?_, hq.ne, hvP, hvM, hq.enr, hq.fin⟩, (Out.of_below HM.out).setCell (.inl (.inl rfl)) _, ?_⟩
    · exact H8.out.keep fun g o hg ho => hget_setCell_ne ho (fun e => hvP (by rw [hg, e])) _
    · rcases H9.out with h | h
      · exact .inl (h.trans hg.symm)
      · exact .inr h
end
end Go.Proofs.Ytkmkgfgppblleaa
