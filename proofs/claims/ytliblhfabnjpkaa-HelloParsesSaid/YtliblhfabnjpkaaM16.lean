/- Two hellos that are alike are found alike. -/
import Derived.Test.YtliblhfabnjpkaaM15
namespace Go.Proofs.Ytliblhfabnjpkaa
open Go Go.RowKit
theorem dr_trans {a b c : World} (h : Dr a b) (k : Dr b c) : Dr a c := by
  obtain ⟨n, rfl⟩ := h
  obtain ⟨m, rfl⟩ := k
  exact ⟨n + m, by simp [World.drewN, Nat.add_assoc]⟩
section
variable {w : World}
set_option maxRecDepth 100000 in
set_option maxHeartbeats 2000000 in
theorem lnums_any {v1 v2 : Value} {l : List Nat} (h1 : NumsAt w v1 l) (h2 : NumsAt w v2 l) (hl : l.length ≤ 1000000000) : Calls Try.prog 44 #[v1, v2] w fun e w' => Dr w w' ∧ e = .returned (.bool true) := by
  obtain ⟨a1, p1, rfl, -, m1⟩ := h1
  obtain ⟨a2, p2, rfl, -, m2⟩ := h2
  have M1 := hid m1
  have M2 := hid m2
  clear m1 m2
  go_enter Try.func44, Try.ntmps44
  go_wp2_with fail
  go_loopw [5] (fun i wr => ∃ k : Nat, k ≤ l.length ∧ i = .int .i64 (k : Int) ∧ Dr w wr) (fun i _ => (l.length - intOf i).toNat)
  case atStart => exact ⟨0, Nat.zero_le _, rfl, Dr.refl _⟩
  case round =>
    obtain ⟨k, hk, rfl, hd⟩ := hrel
    have hce : ∀ p : Addr, wr.cell? p = w.cell? p := fun p => by obtain ⟨n, rfl⟩ := hd; rfl
    have HD := hid hd
    clear hd
    by_cases hkn : k < l.length
    · have dk : decide ((k : Int) < (l.length : Int)) = true := decide_eq_true (by omega)
      obtain ⟨x, hx⟩ : ∃ x, l[k]? = some x := ⟨_, List.getElem?_eq_getElem hkn⟩
      obtain ⟨g1, rfl, c0⟩ := M1.out k x hx
      obtain ⟨g2, rfl, c2⟩ := M2.out k x hx
      rw [← hce] at c0 c2
      clear hx hce
      obtain ⟨X, hX⟩ : ∃ X : Int, (x : Int) = X := ⟨_, rfl⟩
      rw [hX] at c0 c2
      have q1 : (0 : Int) ≤ (k : Int) := by omega
      have q2 : (k : Int) < (l.length : Int) := by omega
      clear hX
      go_wp2_with fail
      go_quiet (fail)
      go_wp2_with fail
      exact ⟨⟨k + 1, by omega, by go_num, HD.out.drewN _⟩, by simp only [intOf]; omega⟩
    · have dk : decide ((k : Int) < (l.length : Int)) = false := decide_eq_false (by omega)
      go_wp2_with fail
      go_ret
      exact ⟨HD.out, rfl⟩
theorem NumsAt.dr {w w' : World} {v : Value} {l : List Nat} (h : NumsAt w v l) (hd : Dr w w') : NumsAt w' v l := by obtain ⟨n, rfl⟩ := hd; exact h
theorem SharesAt.dr {w w' : World} {v : Value} {l : List (Nat × HE.BS)} (h : SharesAt w v l) (hd : Dr w w') : SharesAt w' v l := by obtain ⟨n, rfl⟩ := hd; exact h
set_option maxRecDepth 100000 in
set_option maxHeartbeats 8000000 in
theorem hsame_any {h : Hel} {vS vV vG vC vH vO uS uV uG uC uH uO : Value} (h1 : HRd w h vS vV vG vC vH vO) (h2 : HRd w h uS uV uG uC uH uO) (hol : h.others.length ≤ 1000000000) :
    Calls Try.prog 13 #[.agg (helCells h vS vV vG vC vH vO), .agg (helCells h uS uV uG uC uH uO)] w fun e w' => Below w.heap.size w w' ∧ e = .returned (.bool true) := by
  obtain ⟨aS, cS, rfl⟩ := h1.s.sl
  obtain ⟨aV, cV, rfl⟩ := h1.v.sl
  obtain ⟨aG, cG, rfl⟩ := h1.g.sl
  obtain ⟨aC, cC, rfl⟩ := h1.c.sl
  obtain ⟨aH, cH, rfl⟩ := h1.sh.sl
  obtain ⟨aO, cO, rfl⟩ := h1.o.sl
  obtain ⟨bS, dS, rfl⟩ := h2.s.sl
  obtain ⟨bV, dV, rfl⟩ := h2.v.sl
  obtain ⟨bG, dG, rfl⟩ := h2.g.sl
  obtain ⟨bC, dC, rfl⟩ := h2.c.sl
  obtain ⟨bH, dH, rfl⟩ := h2.sh.sl
  obtain ⟨bO, dO, rfl⟩ := h2.o.sl
  unfold helCells
  obtain ⟨S0, hS0⟩ : ∃ S, (⟨h.random.toArray⟩ : ByteArray) = S := ⟨_, rfl⟩
  obtain ⟨S1, hS1⟩ : ∃ S, (⟨h.session.toArray⟩ : ByteArray) = S := ⟨_, rfl⟩
  obtain ⟨S8, hS8⟩ : ∃ S, (⟨h.cookie.toArray⟩ : ByteArray) = S := ⟨_, rfl⟩
  obtain ⟨S9, hS9⟩ : ∃ S, (⟨h.name.toArray⟩ : ByteArray) = S := ⟨_, rfl⟩
  rw [hS0, hS1, hS8, hS9]
  clear hS0 hS1 hS8 hS9
  obtain ⟨B7, hB7⟩ : ∃ b, h.shared = b := ⟨_, rfl⟩
  obtain ⟨B10, hB10⟩ : ∃ b, h.early = b := ⟨_, rfl⟩
  rw [hB7, hB10]
  clear hB7 hB10
  have b1 := below_new (w := w) (.cells #[.string S0, .string S1, .slice aS h.suites.length cS, .slice aV h.versions.length cV, .slice aG h.groups.length cG, .slice aC h.schemes.length cC, .slice aH h.shares.length cH, .bool B7, .string S8, .string S9, .bool B10, .slice aO h.others.length cO] 38)
  have g1 := alloc_at w (.cells #[.string S0, .string S1, .slice aS h.suites.length cS, .slice aV h.versions.length cV, .slice aG h.groups.length cG, .slice aC h.schemes.length cC, .slice aH h.shares.length cH, .bool B7, .string S8, .string S9, .bool B10, .slice aO h.others.length cO] 38)
  have z1 : (w.alloc (.cells #[.string S0, .string S1, .slice aS h.suites.length cS, .slice aV h.versions.length cV, .slice aG h.groups.length cG, .slice aC h.schemes.length cC, .slice aH h.shares.length cH, .bool B7, .string S8, .string S9, .bool B10, .slice aO h.others.length cO] 38)).heap.size = w.heap.size + 1 := by simp
  generalize hwa : w.alloc (.cells #[.string S0, .string S1, .slice aS h.suites.length cS, .slice aV h.versions.length cV, .slice aG h.groups.length cG, .slice aC h.schemes.length cC, .slice aH h.shares.length cH, .bool B7, .string S8, .string S9, .bool B10, .slice aO h.others.length cO] 38) = wa at *
  have b2 := below_new (w := wa) (.cells #[.string S0, .string S1, .slice bS h.suites.length dS, .slice bV h.versions.length dV, .slice bG h.groups.length dG, .slice bC h.schemes.length dC, .slice bH h.shares.length dH, .bool B7, .string S8, .string S9, .bool B10, .slice bO h.others.length dO] 38)
  have g2 := alloc_at wa (.cells #[.string S0, .string S1, .slice bS h.suites.length dS, .slice bV h.versions.length dV, .slice bG h.groups.length dG, .slice bC h.schemes.length dC, .slice bH h.shares.length dH, .bool B7, .string S8, .string S9, .bool B10, .slice bO h.others.length dO] 38)
  have g1' := keepB b2 g1
  have B1 := hid (below_to b1 b2)
  have K1 := hid ((h1.keep b1).keep b2)
  have K2 := hid ((h2.keep b1).keep b2)
  have WA := hid hwa
  clear h1 h2 b1 b2 g1 hwa
  go_enter Try.func13, Try.ntmps13
  go_upto_region 1 with (fail)
  rw [WA.out]
  generalize hwb : wa.alloc (.cells #[.string S0, .string S1, .slice bS h.suites.length dS, .slice bV h.versions.length dV, .slice bG h.groups.length dG, .slice bC h.schemes.length dC, .slice bH h.shares.length dH, .bool B7, .string S8, .string S9, .bool B10, .slice bO h.others.length dO] 38) = wb at *
  rw [z1] at g2
  obtain ⟨X, hX⟩ : ∃ X, w.heap.size = X := ⟨_, rfl⟩
  obtain ⟨Y, hY⟩ : ∃ Y, w.heap.size + 1 = Y := ⟨_, rfl⟩
  rw [hX] at g1'
  rw [hY] at g2
  rw [hX, show X + 1 = Y by rw [← hX]; exact hY]
  have c2 : wb.cell? ⟨X, 2, none⟩ = some (.slice aS h.suites.length cS) := cell_at g1' 2
  have c3 : wb.cell? ⟨X, 3, none⟩ = some (.slice aV h.versions.length cV) := cell_at g1' 3
  have c4 : wb.cell? ⟨X, 4, none⟩ = some (.slice aG h.groups.length cG) := cell_at g1' 4
  have c5 : wb.cell? ⟨X, 5, none⟩ = some (.slice aC h.schemes.length cC) := cell_at g1' 5
  have c6 : wb.cell? ⟨X, 6, none⟩ = some (.slice aH h.shares.length cH) := cell_at g1' 6
  have c11 : wb.cell? ⟨X, 11, none⟩ = some (.slice aO h.others.length cO) := cell_at g1' 11
  have d2 : wb.cell? ⟨Y, 2, none⟩ = some (.slice bS h.suites.length dS) := cell_at g2 2
  have d3 : wb.cell? ⟨Y, 3, none⟩ = some (.slice bV h.versions.length dV) := cell_at g2 3
  have d4 : wb.cell? ⟨Y, 4, none⟩ = some (.slice bG h.groups.length dG) := cell_at g2 4
  have d5 : wb.cell? ⟨Y, 5, none⟩ = some (.slice bC h.schemes.length dC) := cell_at g2 5
  have d6 : wb.cell? ⟨Y, 6, none⟩ = some (.slice bH h.shares.length dH) := cell_at g2 6
  have d11 : wb.cell? ⟨Y, 11, none⟩ = some (.slice bO h.others.length dO) := cell_at g2 11
  have c0 : wb.cell? ⟨X, 0, none⟩ = some (.string S0) := cell_at g1' 0
  have c1 : wb.cell? ⟨X, 1, none⟩ = some (.string S1) := cell_at g1' 1
  have c8 : wb.cell? ⟨X, 8, none⟩ = some (.string S8) := cell_at g1' 8
  have c9 : wb.cell? ⟨X, 9, none⟩ = some (.string S9) := cell_at g1' 9
  have c7 : wb.cell? ⟨X, 7, none⟩ = some (.bool B7) := cell_at g1' 7
  have c10 : wb.cell? ⟨X, 10, none⟩ = some (.bool B10) := cell_at g1' 10
  have d0 : wb.cell? ⟨Y, 0, none⟩ = some (.string S0) := cell_at g2 0
  have d1 : wb.cell? ⟨Y, 1, none⟩ = some (.string S1) := cell_at g2 1
  have d8 : wb.cell? ⟨Y, 8, none⟩ = some (.string S8) := cell_at g2 8
  have d9 : wb.cell? ⟨Y, 9, none⟩ = some (.string S9) := cell_at g2 9
  have d7 : wb.cell? ⟨Y, 7, none⟩ = some (.bool B7) := cell_at g2 7
  have d10 : wb.cell? ⟨Y, 10, none⟩ = some (.bool B10) := cell_at g2 10
  have C0 := hid c0
  have C1 := hid c1
  have C8 := hid c8
  have C9 := hid c9
  have C7 := hid c7
  have C10 := hid c10
  have D0 := hid d0
  have D1 := hid d1
  have D8 := hid d8
  have D9 := hid d9
  have D7 := hid d7
  have D10 := hid d10
  have C2 := hid c2
  have C3 := hid c3
  have C4 := hid c4
  have C5 := hid c5
  have C11 := hid c11
  have D2 := hid d2
  have D3 := hid d3
  have D4 := hid d4
  have D5 := hid d5
  have D11 := hid d11
  have C6 := hid c6
  have D6 := hid d6
  have hlh := K1.out.lh
  clear g1' g2 z1 c0 c1 c8 c9 c7 c10 d0 d1 d8 d9 d7 d10 c2 c3 c4 c5 c11 d2 d3 d4 d5 d11 WA hwb hX hY
  go_wp2_with fail
  clear c6 d6
  go_loopw [5] (fun i wr => ∃ k : Nat, k ≤ h.shares.length ∧ i = .int .i64 (k : Int) ∧ Dr wb wr) (fun i _ => (h.shares.length - intOf i).toNat)
  case atStart => exact ⟨0, Nat.zero_le _, rfl, Dr.refl _⟩
  case round =>
    obtain ⟨k, hk, rfl, hd⟩ := hrel
    have hce : ∀ p : Addr, wr.cell? p = wb.cell? p := fun p => by obtain ⟨n, rfl⟩ := hd; rfl
    have HD := hid hd
    have c6 := (hce _).trans C6.out
    have d6 := (hce _).trans D6.out
    clear hd
    by_cases hkn : k < h.shares.length
    · have dk : decide ((k : Int) < (h.shares.length : Int)) = true := decide_eq_true (by omega)
      obtain ⟨x, hx⟩ : ∃ x, h.shares[k]? = some x := ⟨_, List.getElem?_eq_getElem hkn⟩
      obtain ⟨a', p', hv1, m1⟩ := K1.out.sh
      obtain ⟨b', q', hv2, m2⟩ := K2.out.sh
      injection hv1 with e1 _ e3
      injection hv2 with e4 _ e6
      subst e1 e3 e4 e6
      obtain ⟨g1, rfl, f0, f1⟩ := m1 k x hx
      obtain ⟨g2, rfl, f2, f3⟩ := m2 k x hx
      rw [← hce] at f0 f1 f2 f3
      clear hx hce m1 m2
      obtain ⟨U, hU⟩ : ∃ U, (⟨x.2.toArray⟩ : ByteArray) = U := ⟨_, rfl⟩
      rw [hU] at f1 f3
      obtain ⟨K, hK⟩ : ∃ K : Int, (x.1 : Int) = K := ⟨_, rfl⟩
      rw [hK] at f0 f2
      clear hU hK
      have q1 : (0 : Int) ≤ (k : Int) := by omega
      have q2 : (k : Int) < (h.shares.length : Int) := by omega
      go_wp2_with fail
      go_quiet (fail)
      go_wp2_with fail
      exact ⟨⟨k + 1, by omega, by go_num, HD.out.drewN _⟩, by simp only [intOf]; omega⟩
    · have dk : decide ((k : Int) < (h.shares.length : Int)) = false := decide_eq_false (by omega)
      have f0 : wr.cell? ⟨X, 0, none⟩ = some _ := (hce _).trans C0.out
      have f1 : wr.cell? ⟨X, 1, none⟩ = some _ := (hce _).trans C1.out
      have f8 : wr.cell? ⟨X, 8, none⟩ = some _ := (hce _).trans C8.out
      have f9 : wr.cell? ⟨X, 9, none⟩ = some _ := (hce _).trans C9.out
      have f7 : wr.cell? ⟨X, 7, none⟩ = some _ := (hce _).trans C7.out
      have f10 : wr.cell? ⟨X, 10, none⟩ = some _ := (hce _).trans C10.out
      have g0 : wr.cell? ⟨Y, 0, none⟩ = some _ := (hce _).trans D0.out
      have g1 : wr.cell? ⟨Y, 1, none⟩ = some _ := (hce _).trans D1.out
      have g8 : wr.cell? ⟨Y, 8, none⟩ = some _ := (hce _).trans D8.out
      have g9 : wr.cell? ⟨Y, 9, none⟩ = some _ := (hce _).trans D9.out
      have g7 : wr.cell? ⟨Y, 7, none⟩ = some _ := (hce _).trans D7.out
      have g10 : wr.cell? ⟨Y, 10, none⟩ = some _ := (hce _).trans D10.out
      have f2 : wr.cell? ⟨X, 2, none⟩ = some _ := (hce _).trans C2.out
      have g2 : wr.cell? ⟨Y, 2, none⟩ = some _ := (hce _).trans D2.out
      have hnm := hid (lnums_any (K1.out.s.dr HD.out) (K2.out.s.dr HD.out) K1.out.ls)
      clear hce
      go_wp2_with fail
      refine hnm.out.mono ?_
      rintro e w2 ⟨hd, rfl⟩
      have hce : ∀ p : Addr, w2.cell? p = wb.cell? p := fun p => by obtain ⟨n, rfl⟩ := hd; obtain ⟨m, hm⟩ := HD.out; rw [hm]; rfl
      replace HD := hid (dr_trans HD.out hd)
      clear hd hnm f2 g2
      clear f0 f1 f8 f9 f7 f10 g0 g1 g8 g9 g7 g10
      have f3 : w2.cell? ⟨X, 3, none⟩ = some _ := (hce _).trans C3.out
      have g3 : w2.cell? ⟨Y, 3, none⟩ = some _ := (hce _).trans D3.out
      have hnm := hid (lnums_any (K1.out.v.dr HD.out) (K2.out.v.dr HD.out) K1.out.lv)
      clear hce
      go_wp2_with fail
      refine hnm.out.mono ?_
      rintro e w3 ⟨hd, rfl⟩
      have hce : ∀ p : Addr, w3.cell? p = wb.cell? p := fun p => by obtain ⟨n, rfl⟩ := hd; obtain ⟨m, hm⟩ := HD.out; rw [hm]; rfl
      replace HD := hid (dr_trans HD.out hd)
      clear hd hnm f3 g3
      have f4 : w3.cell? ⟨X, 4, none⟩ = some _ := (hce _).trans C4.out
      have g4 : w3.cell? ⟨Y, 4, none⟩ = some _ := (hce _).trans D4.out
      have hnm := hid (lnums_any (K1.out.g.dr HD.out) (K2.out.g.dr HD.out) K1.out.lg)
      clear hce
      go_wp2_with fail
      refine hnm.out.mono ?_
      rintro e w4 ⟨hd, rfl⟩
      have hce : ∀ p : Addr, w4.cell? p = wb.cell? p := fun p => by obtain ⟨n, rfl⟩ := hd; obtain ⟨m, hm⟩ := HD.out; rw [hm]; rfl
      replace HD := hid (dr_trans HD.out hd)
      clear hd hnm f4 g4
      have f5 : w4.cell? ⟨X, 5, none⟩ = some _ := (hce _).trans C5.out
      have g5 : w4.cell? ⟨Y, 5, none⟩ = some _ := (hce _).trans D5.out
      have hnm := hid (lnums_any (K1.out.c.dr HD.out) (K2.out.c.dr HD.out) K1.out.lc)
      clear hce
      go_wp2_with fail
      refine hnm.out.mono ?_
      rintro e w5 ⟨hd, rfl⟩
      have hce : ∀ p : Addr, w5.cell? p = wb.cell? p := fun p => by obtain ⟨n, rfl⟩ := hd; obtain ⟨m, hm⟩ := HD.out; rw [hm]; rfl
      replace HD := hid (dr_trans HD.out hd)
      clear hd hnm f5 g5
      have f11 : w5.cell? ⟨X, 11, none⟩ = some _ := (hce _).trans C11.out
      have g11 : w5.cell? ⟨Y, 11, none⟩ = some _ := (hce _).trans D11.out
      have hnm := hid (lnums_any (K1.out.o.dr HD.out) (K2.out.o.dr HD.out) hol)
      clear hce
      go_wp2_with fail
      refine hnm.out.mono ?_
      rintro e w6 ⟨hd, rfl⟩
      have hce : ∀ p : Addr, w6.cell? p = wb.cell? p := fun p => by obtain ⟨n, rfl⟩ := hd; obtain ⟨m, hm⟩ := HD.out; rw [hm]; rfl
      replace HD := hid (dr_trans HD.out hd)
      clear hd hnm f11 g11
      go_wp2_with fail
      go_ret
      exact ⟨below_to B1.out (by obtain ⟨n, hn⟩ := HD.out; rw [hn]; exact ⟨rfl, rfl, rfl, Nat.le_refl _, fun _ _ => rfl⟩), rfl⟩
end
end Go.Proofs.Ytliblhfabnjpkaa
