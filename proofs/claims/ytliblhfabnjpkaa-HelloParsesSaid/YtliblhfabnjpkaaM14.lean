/- The document's Put: shares, and what is not known. The document's Put: what is not known. The document's extensions of a hello. The document's extensions of a hello, walked. -/
import Derived.Test.YtliblhfabnjpkaaM11
import Derived.Test.YtliblhfabnjpkaaM12
import Derived.Test.YtliblhfabnjpkaaM13
namespace Go.Proofs.Ytliblhfabnjpkaa
open Go Go.RowKit
attribute [local go_sem ↓] exl_Hello exs_Hello
                 attribute [local go_sem] ldr_Hello str_Hello
section
variable {w : World} {h : Hel} {vS vV vG vC vH vO : Value}
theorem HE.put_share (h : Hel) (d : HE.BS) : HE.put h 51 d = match HE.sharesX d with | .error c => .error c | .ok l => .ok { h with shared := true, shares := l } := by
  have hp : HE.parsed h 51 d = (HE.sharesX d).map (fun l => ({ h with shared := true, shares := l }, ([] : HE.BS))) := rfl
  unfold HE.put
  rw [hp]
  cases HE.sharesX d with
  | error c => rfl
  | ok l => rfl
theorem HE.sharesX_err {d : HE.BS} {c : Int} (h : HE.sharesX d = .error c) : c ≠ 0 := by
  unfold HE.sharesX at h
  split at h
  · injection h with h; subst h; decide
  · split at h
    · split at h
      · injection h with h; subst h; decide
      · split at h
        · cases h
        · injection h with h; subst h; decide
    · injection h with h; subst h; decide
set_option maxRecDepth 100000 in
set_option maxHeartbeats 4000000 in
theorem rput_share (hr : HRd w h vS vV vG vC vH vO) (d : HE.BS) (hd : d.length ≤ 1000000) :
    Calls Try.prog 63 #[.agg (helCells h vS vV vG vC vH vO), .int .u16 51, .string ⟨d.toArray⟩] w (PutV w h vS vV vG vC vH vO (HE.put h 51 d)) := by
  have hpu := HE.put_share h d
  have herr := fun c => HE.sharesX_err (d := d) (c := c)
  have hgd := fun l => HE.share_good (t := d) (l := l)
  obtain ⟨aS, cS, rfl⟩ := hr.s.sl
  obtain ⟨aV, cV, rfl⟩ := hr.v.sl
  obtain ⟨aG, cG, rfl⟩ := hr.g.sl
  obtain ⟨aC, cC, rfl⟩ := hr.c.sl
  obtain ⟨aH, cH, rfl⟩ := hr.sh.sl
  obtain ⟨aO, cO, rfl⟩ := hr.o.sl
  have HR := hid hr
  have hA := PtW.start w (helCells h (.slice aS h.suites.length cS) (.slice aV h.versions.length cV) (.slice aG h.groups.length cG) (.slice aC h.schemes.length cC) (.slice aH h.shares.length cH) (.slice aO h.others.length cO)) d hd
  unfold helCells zcells at hA
  unfold helCells
  have HA := hid hA
  clear hr hA
  go_enter Try.func63, Try.ntmps63
  go_upto_region 2 with (fail)
  generalize ((w.alloc (.cells #[.string ⟨h.random.toArray⟩, .string ⟨h.session.toArray⟩, .slice aS h.suites.length cS, .slice aV h.versions.length cV, .slice aG h.groups.length cG, .slice aC h.schemes.length cC, .slice aH h.shares.length cH, .bool h.shared, .string ⟨h.cookie.toArray⟩, .string ⟨h.name.toArray⟩, .bool h.early, .slice aO h.others.length cO] 38)).alloc (.cells #[.string ⟨#[]⟩, .string ⟨#[]⟩, .slice none 0 0, .slice none 0 0, .slice none 0 0, .slice none 0 0, .slice none 0 0, .bool false, .string ⟨#[]⟩, .string ⟨#[]⟩, .bool false, .slice none 0 0] 38)).alloc (.cells #[.string ⟨d.toArray⟩, .int .i64 0] 83) = wA at *
  have hsx := rshares_any (w := wA) d hd
  generalize HE.sharesX d = X at *
  have HX := hid hsx
  have hltA := HA.out.lt
  cases X with
  | error c =>
    have HPU := hid hpu
    have hc0 := herr c rfl
    have HC0 := hid hc0
    clear hsx hpu herr hgd hc0
    go_wp2_with fail
    refine HX.out.mono ?_
    rintro e w5 ⟨hb, rfl⟩
    have H5 := hid (HA.out.new hb)
    clear hb HX HA
    have hH5 := H5.out.hH
    have cA5 : w5.cell? ⟨w.heap.size, 6, none⟩ = some _ := cell_at hH5 6
    have cB5 : w5.cell? ⟨w.heap.size, 7, none⟩ = some _ := cell_at hH5 7
    have fH5 := free_at hH5
    have hset := (H5.out.set 6 (.slice none 0 0)).set 7 (.bool true)
    simp only [List.setIfInBounds_toArray, List.set_cons_zero, List.set_cons_succ] at hset
    have HT := hid hset
    have ho5 : Out (· = w.heap.size) w5 ((w5.setCell ⟨w.heap.size, 6, none⟩ (.slice none 0 0)).setCell ⟨w.heap.size, 7, none⟩ (.bool true)) := (Out.setCell (Out.refl (· = w.heap.size) w5) (.inl rfl) _).setCell (.inl rfl) _
    have HO5 := hid ho5
    clear hset hH5 H5 ho5
    go_upto_region 27 with (fail)
    obtain ⟨w7, hw7⟩ : ∃ w7, (w5.setCell ⟨w.heap.size, 6, none⟩ (.slice none 0 0)).setCell ⟨w.heap.size, 7, none⟩ (.bool true) = w7 := ⟨_, rfl⟩
    rw [hw7] at HT HO5 ⊢
    clear hw7 cA5 cB5 fH5
    have hH7 := HT.out.hH
    have hR7 := HT.out.hR
    have hl7 : w.heap.size + 1 < w7.heap.size := by have := HT.out.lt; omega
    unfold zcells at hR7
    go_wp2_with fail
    refine bodyPost_ret (v := .tuple #[.agg (#[.string ⟨h.random.toArray⟩, .string ⟨h.session.toArray⟩, .slice aS h.suites.length cS, .slice aV h.versions.length cV, .slice aG h.groups.length cG, .slice aC h.schemes.length cC, .slice none 0 0, .bool true, .string ⟨h.cookie.toArray⟩, .string ⟨h.name.toArray⟩, .bool h.early, .slice aO h.others.length cO]), .int .i64 c]) (results_cell_tmp Try.results63 _ _ (w.heap.size + 1) 38 (#[.string ⟨h.random.toArray⟩, .string ⟨h.session.toArray⟩, .slice aS h.suites.length cS, .slice aV h.versions.length cV, .slice aG h.groups.length cG, .slice aC h.schemes.length cC, .slice none 0 0, .bool true, .string ⟨h.cookie.toArray⟩, .string ⟨h.name.toArray⟩, .bool h.early, .slice aO h.others.length cO]) (0, 0) _ (.int .i64 c) (by rfl) (by rfl) (by rw [← hget_eq]; go_simp) Try.underlying38 rfl (by rw [info_Hello]; go_simp)) rfl ?_
    have hbO := HT.out.below.trans (((Out.refl (· = w.heap.size + 1) w7).blk (.inl rfl) (.cells #[.string ⟨h.random.toArray⟩, .string ⟨h.session.toArray⟩, .slice aS h.suites.length cS, .slice aV h.versions.length cV, .slice aG h.groups.length cG, .slice aC h.schemes.length cC, .slice none 0 0, .bool true, .string ⟨h.cookie.toArray⟩, .string ⟨h.name.toArray⟩, .bool h.early, .slice aO h.others.length cO] 38 (0, 0))).below (fun e he => by rw [he]; omega) HT.out.below.size)
    exact PutV.bad hbO HPU.out rfl rfl rfl HC0.out
  | ok l =>
    have HPU := hid hpu
    obtain ⟨g1, g2⟩ := hgd l rfl
    have HG := hid g2
    clear hsx hpu herr hgd g1 g2
    go_wp2_with fail
    refine HX.out.mono ?_
    rintro e w5 ⟨hb, v, rfl, hv⟩
    obtain ⟨av, cv, rfl⟩ := owns_sl hv
    have HV := hid (owns_base hv (show w.heap.size + 1 + 1 + 1 ≤ _ by omega))
    have H5 := hid (HA.out.new hb)
    obtain ⟨L, hL⟩ : ∃ L, l.length = L := ⟨_, rfl⟩
    rw [hL] at HV HG ⊢
    have HL := hid hL
    clear hb HX HA hv hL hltA
    have hH5 := H5.out.hH
    have cA5 : w5.cell? ⟨w.heap.size, 6, none⟩ = some _ := cell_at hH5 6
    have cB5 : w5.cell? ⟨w.heap.size, 7, none⟩ = some _ := cell_at hH5 7
    have fH5 := free_at hH5
    have hset := (H5.out.set 6 (.slice av L cv)).set 7 (.bool true)
    simp only [List.setIfInBounds_toArray, List.set_cons_zero, List.set_cons_succ] at hset
    have HT := hid hset
    have ho5 : Out (· = w.heap.size) w5 ((w5.setCell ⟨w.heap.size, 6, none⟩ (.slice av L cv)).setCell ⟨w.heap.size, 7, none⟩ (.bool true)) := (Out.setCell (Out.refl (· = w.heap.size) w5) (.inl rfl) _).setCell (.inl rfl) _
    have HO5 := hid ho5
    clear hset hH5 H5 ho5
    go_upto_region 27 with (fail)
    obtain ⟨w7, hw7⟩ : ∃ w7, (w5.setCell ⟨w.heap.size, 6, none⟩ (.slice av L cv)).setCell ⟨w.heap.size, 7, none⟩ (.bool true) = w7 := ⟨_, rfl⟩
    rw [hw7] at HT HO5 ⊢
    clear hw7 cA5 cB5 fH5
    have hH7 := HT.out.hH
    have hR7 := HT.out.hR
    have hl7 : w.heap.size + 1 < w7.heap.size := by have := HT.out.lt; omega
    unfold zcells at hR7
    go_wp2_with fail
    refine bodyPost_ret (v := .tuple #[.agg (#[.string ⟨h.random.toArray⟩, .string ⟨h.session.toArray⟩, .slice aS h.suites.length cS, .slice aV h.versions.length cV, .slice aG h.groups.length cG, .slice aC h.schemes.length cC, .slice av L cv, .bool true, .string ⟨h.cookie.toArray⟩, .string ⟨h.name.toArray⟩, .bool h.early, .slice aO h.others.length cO]), .int .i64 0]) (results_cell_tmp Try.results63 _ _ (w.heap.size + 1) 38 (#[.string ⟨h.random.toArray⟩, .string ⟨h.session.toArray⟩, .slice aS h.suites.length cS, .slice aV h.versions.length cV, .slice aG h.groups.length cG, .slice aC h.schemes.length cC, .slice av L cv, .bool true, .string ⟨h.cookie.toArray⟩, .string ⟨h.name.toArray⟩, .bool h.early, .slice aO h.others.length cO]) (0, 0) _ (.int .i64 0) (by rfl) (by rfl) (by rw [← hget_eq]; go_simp) Try.underlying38 rfl (by rw [info_Hello]; go_simp)) rfl ?_
    have hbO := HT.out.below.trans (((Out.refl (· = w.heap.size + 1) w7).blk (.inl rfl) (.cells #[.string ⟨h.random.toArray⟩, .string ⟨h.session.toArray⟩, .slice aS h.suites.length cS, .slice aV h.versions.length cV, .slice aG h.groups.length cG, .slice aC h.schemes.length cC, .slice av L cv, .bool true, .string ⟨h.cookie.toArray⟩, .string ⟨h.name.toArray⟩, .bool h.early, .slice aO h.others.length cO] 38 (0, 0))).below (fun e he => by rw [he]; omega) HT.out.below.size)
    have hrO := HR.out.keep hbO
    have hv2 := owns_out (owns_out HV.out HO5.out (fun k hk e => by omega)) ((Out.refl (· = w.heap.size + 1) w7).blk (.inl rfl) (.cells #[.string ⟨h.random.toArray⟩, .string ⟨h.session.toArray⟩, .slice aS h.suites.length cS, .slice aV h.versions.length cV, .slice aG h.groups.length cG, .slice aC h.schemes.length cC, .slice av L cv, .bool true, .string ⟨h.cookie.toArray⟩, .string ⟨h.name.toArray⟩, .bool h.early, .slice aO h.others.length cO] 38 (0, 0))) (fun k hk e => by omega)
    have hLL := HL.out
    subst hLL
    have hvO := SharesAt.of hv2
    refine PutV.good (g := { h with shared := true, shares := l }) (vH := .slice av l.length cv) hbO HPU.out rfl ⟨hrO.s, hrO.v, hrO.g, hrO.c, hvO, hrO.o, hrO.ls, hrO.lv, hrO.lg, hrO.lc, by have := HG.out; show l.length ≤ _; omega⟩ (fun F hF hf => ⟨hf.s, hf.v, hf.g, hf.c, (fun _ k e hk => by have h1 := (owns_lt HV.out e).1; have h2 := hF k hk; omega), hf.o⟩)
end
end Go.Proofs.Ytliblhfabnjpkaa

namespace Go.Proofs.Ytliblhfabnjpkaa
open Go Go.RowKit
/-- An append of nothing. -/
theorem run_app_none {P : Program} {w : World} (base : Nat) (t ty e : TypeId) (i : TypeInfo) (size : Nat) (ht : P.underlying t = some (.slice e)) (hi : P.info? e = some i)
    (v : Value) (n : Nat) (xs : List Value) (c : Nat) (hown : w.ownsRow base e size v n xs) :
    (Builtin.append_ #[t, t] ty #[v, .slice none 0 c]).run P w = .ok v w := by
  rcases hown.2 with ⟨rfl, rfl⟩ | ⟨g, cap, cur, rfl, _, _, hnc, _⟩
  · simp [Builtin.append_, run_underlying ht, sizeOf, typeInfo, hi, Builtin.lenOf, Builtin.firstCells]
  · simp [Builtin.append_, run_underlying ht, sizeOf, typeInfo, hi, Builtin.lenOf, Builtin.firstCells, hnc, storeCells]
theorem wpList_app_none {P : Program} {w : World} {ops : Array Oper} {rest : List Oper} {o : Oper} {a : Act} {Q : Exit → Act → World → Prop} (hgd : o.guard = none) (s x : Operand) (t : TypeId)
    (ho : o.op = .call { callee := .builtin .append, args := #[s, x], argTypes := #[t, t] })
    (base : Nat) (e : TypeId) (i : TypeInfo) (size : Nat) (ht : P.underlying t = some (.slice e)) (hi : P.info? e = some i)
    (v : Value) (n : Nat) (xs : List Value) (c : Nat) (hs : a.eval s = v) (hown : w.ownsRow base e size v n xs) (hx : a.eval x = .slice none 0 c)
    (h : wpList P ops Q rest (a.put o.dst v) w) : wpList P ops Q (o :: rest) a w := by
  refine wpList_plain hgd fun K hK => ?_
  have hrun := run_app_none (P := P) (w := w) base t o.type e i size ht hi v n xs c hown
  unfold Oper.wp
  simp [execOp, ho, resolve, invoke, builtin, hs, hx, hrun, Result.andThen]
  exact hK _ _ h
theorem u16s_at (l : List Nat) (j : Nat) (u : Value) (h : (u16s l)[j]? = some u) : ∃ x, l[j]? = some x ∧ u = .int .u16 (x : Int) := by
  unfold u16s at h
  rw [List.getElem?_map] at h
  cases hl : l[j]? with
  | none => rw [hl] at h; cases h
  | some x => rw [hl] at h; injection h with h; exact ⟨x, rfl, h.symm⟩
theorem u16s_one (l : List Nat) (u : Value) (h : u ∈ u16s l) : u.cells.size = 1 ∧ u.oneCell' = true := by
  unfold u16s at h
  obtain ⟨x, _, rfl⟩ := List.mem_map.1 h
  exact ⟨rfl, rfl⟩
attribute [local go_sem ↓] exl_Hello exs_Hello
                  attribute [local go_sem] ldr_Hello str_Hello
section
variable {w : World} {h : Hel} {vS vV vG vC vH vO : Value}
/-- The kinds that are known. -/
def known (k : Nat) : Prop := k = 0 ∨ k = 10 ∨ k = 13 ∨ k = 43 ∨ k = 44 ∨ k = 42 ∨ k = 51
theorem HE.put_other (h : Hel) (k : Nat) (d : HE.BS) (hk : ¬ known k) : HE.put h k d = .ok { h with others := h.others ++ [k] } := by
  unfold known at hk
  have hp : HE.parsed h k d = .ok ({ h with others := h.others ++ [k] }, ([] : HE.BS)) := by
    unfold HE.parsed
    rw [if_neg (by omega), if_neg (by omega), if_neg (by omega), if_neg (by omega), if_neg (by omega), if_neg (by omega), if_neg (by omega)]
  unfold HE.put
  rw [hp]
  rfl
set_option maxRecDepth 100000 in
set_option maxHeartbeats 4000000 in
theorem rput_other (hr : HRd w h vS vV vG vC vH vO) (k : Nat) (hk : k < 65536) (hkn : ¬ known k) (hol : h.others.length ≤ 1000) (d : HE.BS) (hd : d.length ≤ 1000000) :
    Calls Try.prog 63 #[.agg (helCells h vS vV vG vC vH vO), .int .u16 (k : Int), .string ⟨d.toArray⟩] w (PutV w h vS vV vG vC vH vO (HE.put h k d)) := by
  have hpu := HE.put_other h k d hkn
  unfold known at hkn
  have d0 : ((k : Int) == 0) = false := beq_eq_false_iff_ne.2 (by omega)
  have d1 : ((k : Int) == 10) = false := beq_eq_false_iff_ne.2 (by omega)
  have d2 : ((k : Int) == 13) = false := beq_eq_false_iff_ne.2 (by omega)
  have d3 : ((k : Int) == 43) = false := beq_eq_false_iff_ne.2 (by omega)
  have d4 : ((k : Int) == 44) = false := beq_eq_false_iff_ne.2 (by omega)
  have d5 : ((k : Int) == 42) = false := beq_eq_false_iff_ne.2 (by omega)
  have d6 : ((k : Int) == 51) = false := beq_eq_false_iff_ne.2 (by omega)
  obtain ⟨i0, hi, hii⟩ := Option.map_eq_some_iff.1 info_u16
  obtain ⟨hz0, hz1, hz2⟩ : i0.zero = some (.int .u16 0) ∧ i0.size = 1 ∧ i0.bytes = 2 := by simpa using hii
  have HPU := hid hpu
  clear hkn hii hpu
  obtain ⟨aS, cS, rfl⟩ := hr.s.sl
  obtain ⟨aV, cV, rfl⟩ := hr.v.sl
  obtain ⟨aG, cG, rfl⟩ := hr.g.sl
  obtain ⟨aC, cC, rfl⟩ := hr.c.sl
  obtain ⟨aH, cH, rfl⟩ := hr.sh.sl
  obtain ⟨aO, cO, rfl⟩ := hr.o.sl
  have HR := hid hr
  have hA := PtW.start w (helCells h (.slice aS h.suites.length cS) (.slice aV h.versions.length cV) (.slice aG h.groups.length cG) (.slice aC h.schemes.length cC) (.slice aH h.shares.length cH) (.slice aO h.others.length cO)) d hd
  unfold helCells zcells at hA
  unfold helCells
  have HA := hid hA
  clear hr hA
  go_enter Try.func63, Try.ntmps63
  go_upto_region 2 with (fail)
  generalize ((w.alloc (.cells #[.string ⟨h.random.toArray⟩, .string ⟨h.session.toArray⟩, .slice aS h.suites.length cS, .slice aV h.versions.length cV, .slice aG h.groups.length cG, .slice aC h.schemes.length cC, .slice aH h.shares.length cH, .bool h.shared, .string ⟨h.cookie.toArray⟩, .string ⟨h.name.toArray⟩, .bool h.early, .slice aO h.others.length cO] 38)).alloc (.cells #[.string ⟨#[]⟩, .string ⟨#[]⟩, .slice none 0 0, .slice none 0 0, .slice none 0 0, .slice none 0 0, .slice none 0 0, .bool false, .string ⟨#[]⟩, .string ⟨#[]⟩, .bool false, .slice none 0 0] 38)).alloc (.cells #[.string ⟨d.toArray⟩, .int .i64 0] 83) = wA at *
  have hHA := HA.out.hH
  have cA : wA.cell? ⟨w.heap.size, 11, none⟩ = some _ := cell_at hHA 11
  have hltA := HA.out.lt
  have hlit := World.ownsRow_lit (base := wA.heap.size) (e := 56) (size := 1) wA #[] 0 (Nat.le_refl _) (Nat.zero_le _) rfl
  have hml : h.others.length + 1 ≤ maxLen := by unfold maxLen; omega
  obtain ⟨aO', cO', hv', -, hat⟩ := HR.out.o
  injection hv' with e1 _ e3
  subst e1 e3
  have HLIT := hid hlit
  clear hHA hlit
  cases aO with
  | none =>
    have hn : h.others = [] := by
      cases ho : h.others with
      | nil => rfl
      | cons x t => obtain ⟨g, hg, _⟩ := hat 0 x (by rw [ho]; rfl); cases hg
    have hn0 : h.others.length = 0 := by rw [hn]; rfl
    have HN := hid (And.intro hn hn0)
    clear hat
    have hb4 := below_new (w := wA) (.cells #[] 56)
    have ho4 := HLIT.out
    have cA0 : wA.cell? ⟨w.heap.size, 11, none⟩ = some (.slice none 0 cO) := by rw [← hn0]; exact cA
    clear cA
    have cA := cA0
    clear cA0 hn hn0
    go_wp2_with (at_builtin; refine wpList_app_none (o := ⟨some 19, _, _, _, _, _⟩) rfl _ _ 35 rfl wA.heap.size 56 i0 1 Try.underlying35 hi _ _ _ cO rfl HLIT.out rfl (Hid.out ?_))
    refine hid ?_
    have HB4 := hid hb4
    have HO4 := hid ho4
    clear hb4 ho4
    go_wp2_with ((at_builtin; refine wpList_append_own (o := ⟨some 22, _, _, _, _, _⟩) _ rfl _ _ 35 rfl wA.heap.size 56 i0 (.int .u16 0) 1 2 Try.underlying35 hi hz0 hz1 hz2 rfl (by decide) _ _ _ rfl (HO4.out.alloc _) ⟨wA.heap.size + 1, 0, none⟩ 1 1 [.int .u16 (k : Int)] rfl rfl ?f1 ?f2 ?f3 ?f4 ?f5 ?_))
    case f1 => have hc1 := cell_one_new (wA.alloc (.cells #[] 56)) (.int .u16 (k : Int)) 56; rw [show (wA.alloc (.cells #[] 56)).heap.size = wA.heap.size + 1 by simp] at hc1; exact hc1
    case f3 => omega
    case f2 => intro u hu; simp only [List.mem_cons, List.not_mem_nil, or_false] at hu; subst hu; rfl
    case f4 => omega
    case f5 => have := HB4.out.size; simp; omega
    intro v2 w5 ho5 hg5 _
    have hb5 : Below wA.heap.size wA w5 := (below_alloc HB4.out _).grown hg5 (by have := HB4.out.size; simp; omega) (fun g hg => block_le HO4.out hg)
    replace ho5 : w5.ownsRow wA.heap.size 56 1 v2 (h.others.length + 1) (u16s (h.others ++ [k])) := by rw [HN.out.1]; exact ho5
    obtain ⟨av, cv, rfl⟩ := owns_sl ho5
    obtain ⟨L, hL⟩ : ∃ L, h.others.length + 1 = L := ⟨_, rfl⟩
    rw [hL] at ho5 ⊢
    have H5 := hid (HA.out.new hb5)
    have HO5 := hid ho5
    have HLL := hid hL
    have hH5 := H5.out.hH
    have cH5 : w5.cell? ⟨w.heap.size, 11, none⟩ = some _ := cell_at hH5 11
    have fH5 := free_at hH5
    clear ho5 hg5 hb5 hL HB4 HO4 HA hH5 cA
    have hset := H5.out.set 11 (.slice av L cv)
    simp only [List.setIfInBounds_toArray, List.set_cons_zero, List.set_cons_succ] at hset
    have HT := hid hset
    have hoe : Out (· = w.heap.size) w5 (w5.setCell ⟨w.heap.size, 11, none⟩ (.slice av L cv)) := Out.setCell (Out.refl (· = w.heap.size) w5) (.inl rfl) _
    have HOE := hid hoe
    clear hset hoe H5
    go_upto_region 4 with (fail)
    obtain ⟨w7, hw7⟩ : ∃ w7, w5.setCell ⟨w.heap.size, 11, none⟩ (.slice av L cv) = w7 := ⟨_, rfl⟩
    rw [hw7] at HT HOE ⊢
    clear hw7 cH5 fH5
    have hH7 := HT.out.hH
    have hR7 := HT.out.hR
    have hl7 : w.heap.size + 1 < w7.heap.size := by have := HT.out.lt; omega
    unfold zcells at hR7
    go_wp2_with fail
    refine bodyPost_ret (v := .tuple #[.agg (#[.string ⟨h.random.toArray⟩, .string ⟨h.session.toArray⟩, .slice aS h.suites.length cS, .slice aV h.versions.length cV, .slice aG h.groups.length cG, .slice aC h.schemes.length cC, .slice aH h.shares.length cH, .bool h.shared, .string ⟨h.cookie.toArray⟩, .string ⟨h.name.toArray⟩, .bool h.early, .slice av L cv]), .int .i64 0]) (results_cell_tmp Try.results63 _ _ (w.heap.size + 1) 38 (#[.string ⟨h.random.toArray⟩, .string ⟨h.session.toArray⟩, .slice aS h.suites.length cS, .slice aV h.versions.length cV, .slice aG h.groups.length cG, .slice aC h.schemes.length cC, .slice aH h.shares.length cH, .bool h.shared, .string ⟨h.cookie.toArray⟩, .string ⟨h.name.toArray⟩, .bool h.early, .slice av L cv]) (0, 0) _ (.int .i64 0) (by rfl) (by rfl) (by rw [← hget_eq]; go_simp) Try.underlying38 rfl (by rw [info_Hello]; go_simp)) rfl ?_
    have hbO := HT.out.below.trans (((Out.refl (· = w.heap.size + 1) w7).blk (.inl rfl) (.cells #[.string ⟨h.random.toArray⟩, .string ⟨h.session.toArray⟩, .slice aS h.suites.length cS, .slice aV h.versions.length cV, .slice aG h.groups.length cG, .slice aC h.schemes.length cC, .slice aH h.shares.length cH, .bool h.shared, .string ⟨h.cookie.toArray⟩, .string ⟨h.name.toArray⟩, .bool h.early, .slice av L cv] 38 (0, 0))).below (fun e he => by rw [he]; omega) HT.out.below.size)
    have hrO := HR.out.keep hbO
    have hv2 := owns_out (owns_out HO5.out HOE.out (fun k hk e => by omega)) ((Out.refl (· = w.heap.size + 1) w7).blk (.inl rfl) (.cells #[.string ⟨h.random.toArray⟩, .string ⟨h.session.toArray⟩, .slice aS h.suites.length cS, .slice aV h.versions.length cV, .slice aG h.groups.length cG, .slice aC h.schemes.length cC, .slice aH h.shares.length cH, .bool h.shared, .string ⟨h.cookie.toArray⟩, .string ⟨h.name.toArray⟩, .bool h.early, .slice av L cv] 38 (0, 0))) (fun k hk e => by omega)
    obtain rfl : L = (h.others ++ [k]).length := by rw [← HLL.out, List.length_append, List.length_singleton]
    have hvO := NumsAt.of hv2 (fun x hx => by
      rcases List.mem_append.1 hx with hx | hx
      · obtain ⟨_, _, _, h1, _⟩ := HR.out.o; exact h1 x hx
      · rw [List.mem_singleton] at hx; subst hx; exact hk)
    exact PutV.good (g := { h with others := h.others ++ [k] }) hbO HPU.out rfl ⟨hrO.s, hrO.v, hrO.g, hrO.c, hrO.sh, hvO, hrO.ls, hrO.lv, hrO.lg, hrO.lc, hrO.lh⟩ (fun F hF hf => ⟨hf.s, hf.v, hf.g, hf.c, hf.sh, (fun _ k e hk => by have h1 := (owns_lt HO5.out e).1; have h2 := hF k hk; omega)⟩)
  | some ad =>
    have hnews : ∀ j u, (u16s h.others)[j]? = some u → (wA.alloc (.cells #[] 56)).cell? (ad.add j) = some u := fun j u hu => by
      obtain ⟨x, hx, rfl⟩ := u16s_at _ j u hu
      obtain ⟨g, hg, hc⟩ := hat j x hx
      injection hg with hg
      subst hg
      rw [show (⟨g, 0, none⟩ : Addr).add j = ⟨g, j, none⟩ by unfold Addr.add; split <;> simp_all]
      have hgl := World.block_lt_of_cell? _ _ hc
      have hc2 := (HA.out.below.cell (p := ⟨g, j, none⟩) hgl).trans hc
      exact ((below_new (w := wA) (.cells #[] 56)).cell (p := ⟨g, j, none⟩) (World.block_lt_of_cell? _ _ hc2)).trans hc2
    have HNW := hid hnews
    clear hat hnews
    go_wp2_with (at_builtin; refine wpList_append_own (o := ⟨some 19, _, _, _, _, _⟩) _ rfl _ _ 35 rfl wA.heap.size 56 i0 (.int .u16 0) 1 2 Try.underlying35 hi hz0 hz1 hz2 rfl (by decide) _ _ _ rfl HLIT.out ad h.others.length cO (u16s h.others) rfl (by rw [u16s_length, Nat.mul_one]) ?c1 ?c2 ?c3 ?c4 ?c5 ?_)
    case c1 => exact HNW.out
    case c2 => intro u hu; exact (u16s_one _ u hu).2
    case c3 => omega
    case c4 => omega
    intro v4 w4 ho4 hg4 _
    have hb4 : Below wA.heap.size wA w4 := (below_new (w := wA) (.cells #[] 56)).grown hg4 (by simp) (fun g hg => block_le HLIT.out hg)
    try simp only [Nat.zero_add, List.nil_append] at ho4
    obtain ⟨a4, c4, rfl⟩ := owns_sl ho4
    clear HNW HLIT hg4
    have HB4 := hid hb4
    have HO4 := hid ho4
    clear hb4 ho4
    go_wp2_with ((at_builtin; refine wpList_append_own (o := ⟨some 22, _, _, _, _, _⟩) _ rfl _ _ 35 rfl wA.heap.size 56 i0 (.int .u16 0) 1 2 Try.underlying35 hi hz0 hz1 hz2 rfl (by decide) _ _ _ rfl (HO4.out.alloc _) ⟨w4.heap.size, 0, none⟩ 1 1 [.int .u16 (k : Int)] rfl rfl ?e1 ?e2 ?e3 ?e4 ?e5 ?_))
    case e1 => exact cell_one_new _ _ _
    case e3 => omega
    case e2 => intro u hu; simp only [List.mem_cons, List.not_mem_nil, or_false] at hu; subst hu; rfl
    case e4 => omega
    case e5 => have := HB4.out.size; simp; omega
    intro v2 w5 ho5 hg5 _
    have hb5 : Below wA.heap.size wA w5 := (below_alloc HB4.out _).grown hg5 (by have := HB4.out.size; simp; omega) (fun g hg => block_le HO4.out hg)
    replace ho5 : w5.ownsRow wA.heap.size 56 1 v2 (h.others.length + 1) (u16s (h.others ++ [k])) := by rw [u16s_append]; exact ho5
    obtain ⟨av, cv, rfl⟩ := owns_sl ho5
    obtain ⟨L, hL⟩ : ∃ L, h.others.length + 1 = L := ⟨_, rfl⟩
    rw [hL] at ho5 ⊢
    have H5 := hid (HA.out.new hb5)
    have HO5 := hid ho5
    have HLL := hid hL
    have hH5 := H5.out.hH
    have cH5 : w5.cell? ⟨w.heap.size, 11, none⟩ = some _ := cell_at hH5 11
    have fH5 := free_at hH5
    clear ho5 hg5 hb5 hL HB4 HO4 HA hH5 cA
    have hset := H5.out.set 11 (.slice av L cv)
    simp only [List.setIfInBounds_toArray, List.set_cons_zero, List.set_cons_succ] at hset
    have HT := hid hset
    have hoe : Out (· = w.heap.size) w5 (w5.setCell ⟨w.heap.size, 11, none⟩ (.slice av L cv)) := Out.setCell (Out.refl (· = w.heap.size) w5) (.inl rfl) _
    have HOE := hid hoe
    clear hset hoe H5
    go_upto_region 4 with (fail)
    obtain ⟨w7, hw7⟩ : ∃ w7, w5.setCell ⟨w.heap.size, 11, none⟩ (.slice av L cv) = w7 := ⟨_, rfl⟩
    rw [hw7] at HT HOE ⊢
    clear hw7 cH5 fH5
    have hH7 := HT.out.hH
    have hR7 := HT.out.hR
    have hl7 : w.heap.size + 1 < w7.heap.size := by have := HT.out.lt; omega
    unfold zcells at hR7
    go_wp2_with fail
    refine bodyPost_ret (v := .tuple #[.agg (#[.string ⟨h.random.toArray⟩, .string ⟨h.session.toArray⟩, .slice aS h.suites.length cS, .slice aV h.versions.length cV, .slice aG h.groups.length cG, .slice aC h.schemes.length cC, .slice aH h.shares.length cH, .bool h.shared, .string ⟨h.cookie.toArray⟩, .string ⟨h.name.toArray⟩, .bool h.early, .slice av L cv]), .int .i64 0]) (results_cell_tmp Try.results63 _ _ (w.heap.size + 1) 38 (#[.string ⟨h.random.toArray⟩, .string ⟨h.session.toArray⟩, .slice aS h.suites.length cS, .slice aV h.versions.length cV, .slice aG h.groups.length cG, .slice aC h.schemes.length cC, .slice aH h.shares.length cH, .bool h.shared, .string ⟨h.cookie.toArray⟩, .string ⟨h.name.toArray⟩, .bool h.early, .slice av L cv]) (0, 0) _ (.int .i64 0) (by rfl) (by rfl) (by rw [← hget_eq]; go_simp) Try.underlying38 rfl (by rw [info_Hello]; go_simp)) rfl ?_
    have hbO := HT.out.below.trans (((Out.refl (· = w.heap.size + 1) w7).blk (.inl rfl) (.cells #[.string ⟨h.random.toArray⟩, .string ⟨h.session.toArray⟩, .slice aS h.suites.length cS, .slice aV h.versions.length cV, .slice aG h.groups.length cG, .slice aC h.schemes.length cC, .slice aH h.shares.length cH, .bool h.shared, .string ⟨h.cookie.toArray⟩, .string ⟨h.name.toArray⟩, .bool h.early, .slice av L cv] 38 (0, 0))).below (fun e he => by rw [he]; omega) HT.out.below.size)
    have hrO := HR.out.keep hbO
    have hv2 := owns_out (owns_out HO5.out HOE.out (fun k hk e => by omega)) ((Out.refl (· = w.heap.size + 1) w7).blk (.inl rfl) (.cells #[.string ⟨h.random.toArray⟩, .string ⟨h.session.toArray⟩, .slice aS h.suites.length cS, .slice aV h.versions.length cV, .slice aG h.groups.length cG, .slice aC h.schemes.length cC, .slice aH h.shares.length cH, .bool h.shared, .string ⟨h.cookie.toArray⟩, .string ⟨h.name.toArray⟩, .bool h.early, .slice av L cv] 38 (0, 0))) (fun k hk e => by omega)
    obtain rfl : L = (h.others ++ [k]).length := by rw [← HLL.out, List.length_append, List.length_singleton]
    have hvO := NumsAt.of hv2 (fun x hx => by
      rcases List.mem_append.1 hx with hx | hx
      · obtain ⟨_, _, _, h1, _⟩ := HR.out.o; exact h1 x hx
      · rw [List.mem_singleton] at hx; subst hx; exact hk)
    exact PutV.good (g := { h with others := h.others ++ [k] }) hbO HPU.out rfl ⟨hrO.s, hrO.v, hrO.g, hrO.c, hrO.sh, hvO, hrO.ls, hrO.lv, hrO.lg, hrO.lc, hrO.lh⟩ (fun F hF hf => ⟨hf.s, hf.v, hf.g, hf.c, hf.sh, (fun _ k e hk => by have h1 := (owns_lt HO5.out e).1; have h2 := hF k hk; omega)⟩)
end
end Go.Proofs.Ytliblhfabnjpkaa

namespace Go.Proofs.Ytliblhfabnjpkaa
open Go Go.RowKit
theorem rput_any {w : World} {h : Hel} {vS vV vG vC vH vO : Value} (hr : HRd w h vS vV vG vC vH vO) (k : Nat) (hk : k < 65536) (hol : h.others.length ≤ 1000) (d : HE.BS) (hd : d.length ≤ 1000000) :
    Calls Try.prog 63 #[.agg (helCells h vS vV vG vC vH vO), .int .u16 (k : Int), .string ⟨d.toArray⟩] w (PutV w h vS vV vG vC vH vO (HE.put h k d)) := by
  by_cases hkn : known k
  · unfold known at hkn
    rcases hkn with rfl | rfl | rfl | rfl | rfl | rfl | rfl
    · exact rput_name hr d hd
    · exact rput_groups hr d hd
    · exact rput_schemes hr d hd
    · exact rput_versions hr d hd
    · exact rput_cookie hr d hd
    · exact rput_early hr d hd
    · exact rput_share hr d hd
  · exact rput_other hr k hk hkn hol d hd
/-- No number of two bytes lies in these blocks. -/
def NoU16 (w : World) (ex : Nat → Prop) : Prop := ∀ b, ex b → ∀ (k : Nat) (x : Int), w.cell? ⟨b, k, none⟩ ≠ some (.int .u16 x)
theorem NumsAt.out {w w' : World} {v : Value} {l : List Nat} {ex : Nat → Prop} (h : NumsAt w v l) (ho : Out ex w w') (hn : NoU16 w ex) : NumsAt w' v l := by
  obtain ⟨a, c, h1, h2, h3⟩ := h
  exact ⟨a, c, h1, h2, fun k x hx => by obtain ⟨g, e, hc⟩ := h3 k x hx; exact ⟨g, e, ho.cell hc fun he => hn g he k _ hc⟩⟩
theorem SharesAt.out {w w' : World} {v : Value} {l : List (Nat × HE.BS)} {ex : Nat → Prop} (h : SharesAt w v l) (ho : Out ex w w') (hn : NoU16 w ex) : SharesAt w' v l := by
  obtain ⟨a, c, h1, h3⟩ := h
  exact ⟨a, c, h1, fun k x hx => by obtain ⟨g, e, hc, hd⟩ := h3 k x hx; exact ⟨g, e, ho.cell hc fun he => hn g he _ _ hc, ho.cell hd fun he => hn g he _ _ hc⟩⟩
theorem HRd.out {w w' : World} {h : Hel} {vS vV vG vC vH vO : Value} {ex : Nat → Prop} (k : HRd w h vS vV vG vC vH vO) (ho : Out ex w w') (hn : NoU16 w ex) : HRd w' h vS vV vG vC vH vO :=
  ⟨k.s.out ho hn, k.v.out ho hn, k.g.out ho hn, k.c.out ho hn, k.sh.out ho hn, k.o.out ho hn, k.ls, k.lv, k.lg, k.lc, k.lh⟩
theorem no_u16 {w : World} {b : Nat} {cs : Array Value} {T : TypeId} {f : Nat × Nat} (h : hget w b = some (.cells cs T f)) (hc : ∀ v ∈ cs.toList, ∀ x, v ≠ .int .u16 x) : NoU16 w (· = b) := by
  rintro b' rfl k x he
  rw [cell_at h] at he
  have hm : Value.int .u16 x ∈ cs.toList := by
    have := Array.mem_of_getElem? he
    simpa using this
  exact hc _ hm x rfl
theorem TS.no {w : World} {P : Nat} {o : Option HE.BS} (h : TS w P o) : NoU16 w (· = P) := by
  cases o with
  | some t => exact no_u16 h.1 (by intro v hv x; simp at hv; rcases hv with rfl | rfl <;> simp)
  | none => obtain ⟨s, h1, _⟩ := h; exact no_u16 h1 (by intro v hv x; simp at hv; rcases hv with rfl | rfl <;> simp)
theorem hel_no {w : World} {b : Nat} {h : Hel} {aS aV aG aC aH aO : Option Addr} {nS cS nV cV nG cG nC cC nH cH nO cO : Nat} {T : TypeId} {f : Nat × Nat}
    (hg : hget w b = some (.cells (helCells h (.slice aS nS cS) (.slice aV nV cV) (.slice aG nG cG) (.slice aC nC cC) (.slice aH nH cH) (.slice aO nO cO)) T f)) : NoU16 w (· = b) :=
  no_u16 hg (by intro v hv x; unfold helCells at hv; simp at hv; rcases hv with rfl | rfl | rfl | rfl | rfl | rfl | rfl | rfl | rfl | rfl | rfl | rfl <;> simp)
namespace HE
theorem ext1_none {s : BS} (h : ext1 s = none) : rs ((rs ((some s).bind (num 2))).bind (text 2)) = none := by
  unfold ext1 at h
  rw [Option.bind_some]
  cases hn : num 2 s with
  | none => rfl
  | some p =>
    rw [hn] at h
    simp only [Option.bind_some, Option.map_eq_none_iff] at h
    show rs ((some p.2).bind (text 2)) = none
    rw [Option.bind_some, h]; rfl
theorem ext1_some {s d r : BS} {k : Nat} (h : ext1 s = some (k, d, r)) : rn ((some s).bind (num 2)) = k ∧ rv ((rs ((some s).bind (num 2))).bind (text 2)) = d ∧ rs ((rs ((some s).bind (num 2))).bind (text 2)) = some r := by
  unfold ext1 at h
  rw [Option.bind_some]
  cases hn : num 2 s with
  | none => rw [hn] at h; cases h
  | some p =>
    rw [hn] at h
    simp only [Option.bind_some] at h
    cases ht : text 2 p.2 with
    | none => rw [ht] at h; cases h
    | some q =>
      rw [ht] at h
      injection h with h
      injection h with h1 h2
      injection h2 with h2 h3
      subst h1 h2 h3
      show p.1 = p.1 ∧ rv ((some p.2).bind (text 2)) = q.1 ∧ rs ((some p.2).bind (text 2)) = some q.2
      rw [Option.bind_some, ht]
      exact ⟨rfl, rfl, rfl⟩
theorem extN_nil (n : Nat) (h : Hel) (l : List Nat) : extN n h l [] = .ok h := by cases n <;> rfl
theorem extN_no {n : Nat} {h : Hel} {l : List Nat} {s : BS} (hs : s ≠ []) (hx : ext1 s = none) : extN n h l s = .error 270 := by
  cases n with
  | zero => exact if_neg hs
  | succ n => unfold extN; rw [if_neg hs, hx]
theorem extN_far {h : Hel} {l : List Nat} {s : BS} (hs : s ≠ []) : extN 0 h l s = .error 270 := if_neg hs
theorem extN_twice {n : Nat} {h : Hel} {l : List Nat} {s d r : BS} {k : Nat} (hs : s ≠ []) (hx : ext1 s = some (k, d, r)) (ht : k ∈ l ∨ 41 ∈ l) : extN (n + 1) h l s = .error 271 := by
  unfold extN; rw [if_neg hs, hx]; exact if_pos ht
theorem extN_bad {n : Nat} {h : Hel} {l : List Nat} {s d r : BS} {k : Nat} {c : Int} (hs : s ≠ []) (hx : ext1 s = some (k, d, r)) (ht : ¬ (k ∈ l ∨ 41 ∈ l)) (hp : put h k d = .error c) : extN (n + 1) h l s = .error c := by
  unfold extN; rw [if_neg hs, hx]; simp only []; rw [if_neg ht, hp]
theorem extN_on {n : Nat} {h h' : Hel} {l : List Nat} {s d r : BS} {k : Nat} (hs : s ≠ []) (hx : ext1 s = some (k, d, r)) (ht : ¬ (k ∈ l ∨ 41 ∈ l)) (hp : put h k d = .ok h') : extN (n + 1) h l s = extN n h' (l ++ [k]) r := by
  conv => lhs; unfold extN
  rw [if_neg hs, hx]; simp only []; rw [if_neg ht, hp]
theorem put_others {h h' : Hel} {k : Nat} {d : BS} (hp : put h k d = .ok h') : h'.others.length ≤ h.others.length + 1 := by
  have key : ∀ x, parsed h k d = .ok x → x.1.others.length ≤ h.others.length + 1 := by
    intro x hx
    unfold parsed at hx
    split at hx
    · cases hr : name d with
      | none => rw [hr] at hx; cases hx
      | some y => rw [hr] at hx; injection hx with hx; subst hx; exact Nat.le_succ _
    split at hx
    · cases hr : numbers 2 d with
      | none => rw [hr] at hx; cases hx
      | some y => rw [hr] at hx; injection hx with hx; subst hx; exact Nat.le_succ _
    split at hx
    · cases hr : numbers 2 d with
      | none => rw [hr] at hx; cases hx
      | some y => rw [hr] at hx; injection hx with hx; subst hx; exact Nat.le_succ _
    split at hx
    · cases hr : numbers 1 d with
      | none => rw [hr] at hx; cases hx
      | some y => rw [hr] at hx; injection hx with hx; subst hx; exact Nat.le_succ _
    split at hx
    · cases hr : some' 2 d with
      | none => rw [hr] at hx; cases hx
      | some y => rw [hr] at hx; injection hx with hx; subst hx; exact Nat.le_succ _
    split at hx
    · injection hx with hx; subst hx; exact Nat.le_succ _
    split at hx
    · cases hr : sharesX d with
      | error c => rw [hr] at hx; cases hx
      | ok y => rw [hr] at hx; injection hx with hx; subst hx; exact Nat.le_succ _
    · injection hx with hx; subst hx
      show (h.others ++ [k]).length ≤ _
      rw [List.length_append, List.length_singleton]; exact Nat.le_refl _
  unfold put at hp
  cases hq : parsed h k d with
  | error c => rw [hq] at hp; cases hp
  | ok x =>
    rw [hq] at hp
    simp only [] at hp
    split at hp
    · injection hp with hp; rw [← hp]; exact key x hq
    · cases hp
end HE
end Go.Proofs.Ytliblhfabnjpkaa

namespace Go.Proofs.Ytliblhfabnjpkaa
open Go Go.RowKit
theorem HE.ext1_len {s d r : HE.BS} {k : Nat} (h : HE.ext1 s = some (k, d, r)) : r.length < s.length := by
  unfold HE.ext1 at h
  cases hn : HE.num 2 s with
  | none => rw [hn] at h; cases h
  | some p =>
    rw [hn] at h
    simp only [Option.bind_some] at h
    cases ht : HE.text 2 p.2 with
    | none => rw [ht] at h; cases h
    | some q =>
      rw [ht] at h
      injection h with h
      injection h with h1 h2
      injection h2 with h2 h3
      subst h3
      have k1 := (num2_some hn).2
      have k2 := (HE.text_some ht).1
      omega
/-- What comes of the extensions. -/
def ExtV (W : World) (P : Nat) (r : Except Int Hel) (e : Ending) (w' : World) : Prop := Out (· = P) W w' ∧
  match r with
  | .ok g => ∃ vS vV vG vC vH vO, e = .returned (.tuple #[.agg (helCells g vS vV vG vC vH vO), .int .i64 0]) ∧ HRd w' g vS vV vG vC vH vO
  | .error c => e = .returned (.tuple #[.agg zcells, .int .i64 c])
theorem ExtV.bad {W w' : World} {P : Nat} {r : Except Int Hel} {e : Ending} {c : Int} (hb : Out (· = P) W w') (hr : r = .error c) (he : e = .returned (.tuple #[.agg zcells, .int .i64 c])) : ExtV W P r e w' := by
  subst hr; exact ⟨hb, he⟩
theorem ExtV.good {W w' : World} {P : Nat} {r : Except Int Hel} {e : Ending} {g : Hel} {vS vV vG vC vH vO : Value} (hb : Out (· = P) W w') (hr : r = .ok g) (he : e = .returned (.tuple #[.agg (helCells g vS vV vG vC vH vO), .int .i64 0])) (h : HRd w' g vS vV vG vC vH vO) : ExtV W P r e w' := by
  subst hr; exact ⟨hb, vS, vV, vG, vC, vH, vO, he, h⟩
/-- How memory stands while the extensions are read. -/
structure XtW (W w : World) (P : Nat) (o : Option HE.BS) (g : Hel) (vS vV vG vC vH vO : Value) : Prop where
  hH : hget w W.heap.size = some (.cells (helCells g vS vV vG vC vH vO) 38 (0, 0))
  hR : hget w (W.heap.size + 1) = some (.cells zcells 38 (0, 0))
  hP : TS w P o
  hr : HRd w g vS vV vG vC vH vO
  out : Out (· = P) W w
  lt : W.heap.size + 1 < w.heap.size
section
variable {W w w' : World} {P : Nat} {o o' : Option HE.BS} {g : Hel} {vS vV vG vC vH vO : Value}
theorem XtW.start (hr : HRd W g vS vV vG vC vH vO) (hp : TS W P o) : XtW W ((W.alloc (.cells (helCells g vS vV vG vC vH vO) 38)).alloc (.cells zcells 38)) P o g vS vV vG vC vH vO := by
  have b1 := below_new (w := W) (.cells (helCells g vS vV vG vC vH vO) 38)
  have b2 := below_new (w := W.alloc (.cells (helCells g vS vV vG vC vH vO) 38)) (.cells zcells 38)
  have g1 : hget (W.alloc (.cells (helCells g vS vV vG vC vH vO) 38)) W.heap.size = some (.cells (helCells g vS vV vG vC vH vO) 38 (0, 0)) := alloc_at _ _
  have g2 : hget ((W.alloc (.cells (helCells g vS vV vG vC vH vO) 38)).alloc (.cells zcells 38)) (W.alloc (.cells (helCells g vS vV vG vC vH vO) 38)).heap.size = some (.cells zcells 38 (0, 0)) := alloc_at _ _
  have z1 : (W.alloc (.cells (helCells g vS vV vG vC vH vO) 38)).heap.size = W.heap.size + 1 := by simp
  rw [z1] at g2
  have b := below_to b1 b2
  exact ⟨keepB b2 g1, g2, hp.below b, hr.keep b, Out.of_below b, by have := hget_lt g2; omega⟩
theorem XtW.text (h : XtW W w P o g vS vV vG vC vH vO) (hPl : P < W.heap.size) (ho : Out (· = P) w w') (hp : TS w' P o') : XtW W w' P o' g vS vV vG vC vH vO :=
  ⟨ho.get h.hH (by omega), ho.get h.hR (by omega), hp, h.hr.out ho h.hP.no, h.out.then ho, Nat.lt_of_lt_of_le h.lt ho.size⟩
theorem XtW.turn {g' : Hel} {uS uV uG uC uH uO : Value} (h : XtW W w P o g vS vV vG vC vH vO) (hPl : P < W.heap.size) (hr : HRd w g' uS uV uG uC uH uO) (ho : Out (· = W.heap.size) w w') (hH : hget w' W.heap.size = some (.cells (helCells g' uS uV uG uC uH uO) 38 (0, 0))) (hn : NoU16 w (· = W.heap.size)) : XtW W w' P o g' uS uV uG uC uH uO :=
  ⟨hH, ho.get h.hR (by omega), h.hP.out ho (by omega), hr.out ho hn, h.out.trans ho (fun j hj e => by omega), Nat.lt_of_lt_of_le h.lt ho.size⟩
theorem NumsAt.outF {v : Value} {l : List Nat} {ex : Nat → Prop} (h : NumsAt w v l) (ho : Out ex w w') (hf : l ≠ [] → ∀ k, v.ownBlock = some k → ¬ ex k) : NumsAt w' v l := by
  obtain ⟨a, c, rfl, h2, h3⟩ := h
  exact ⟨a, c, rfl, h2, fun k x hx => by
    obtain ⟨b, e, hc⟩ := h3 k x hx
    exact ⟨b, e, ho.cell hc (hf (fun h0 => by rw [h0] at hx; cases hx) b (by rw [e]; rfl))⟩⟩
theorem SharesAt.outF {v : Value} {l : List (Nat × HE.BS)} {ex : Nat → Prop} (h : SharesAt w v l) (ho : Out ex w w') (hf : l ≠ [] → ∀ k, v.ownBlock = some k → ¬ ex k) : SharesAt w' v l := by
  obtain ⟨a, c, rfl, h3⟩ := h
  exact ⟨a, c, rfl, fun k x hx => by
    obtain ⟨b, e, hc, hd⟩ := h3 k x hx
    exact ⟨b, e, ho.cell hc (hf (fun h0 => by rw [h0] at hx; cases hx) b (by rw [e]; rfl)), ho.cell hd (hf (fun h0 => by rw [h0] at hx; cases hx) b (by rw [e]; rfl))⟩⟩
theorem HRd.outF {ex : Nat → Prop} (k : HRd w g vS vV vG vC vH vO) (ho : Out ex w w') (hf : HFre ex g vS vV vG vC vH vO) : HRd w' g vS vV vG vC vH vO :=
  ⟨k.s.outF ho hf.s, k.v.outF ho hf.v, k.g.outF ho hf.g, k.c.outF ho hf.c, k.sh.outF ho hf.sh, k.o.outF ho hf.o, k.ls, k.lv, k.lg, k.lc, k.lh⟩
theorem HRd.lt (k : HRd w g vS vV vG vC vH vO) : HFre (fun b => w.heap.size ≤ b) g vS vV vG vC vH vO := by
  have hn : ∀ {v : Value} {l : List Nat}, NumsAt w v l → l ≠ [] → ∀ b, v.ownBlock = some b → ¬ w.heap.size ≤ b := by
    rintro v l ⟨a, c, rfl, _, h3⟩ hne b hb
    obtain ⟨x, hx⟩ : ∃ x, l[0]? = some x := ⟨l[0]'(List.length_pos_iff.2 hne), List.getElem?_eq_getElem _⟩
    obtain ⟨b', rfl, hc⟩ := h3 0 x hx
    have : b' = b := by simpa [Value.ownBlock] using hb
    subst this
    have hl := World.block_lt_of_cell? _ _ hc
    exact Nat.not_le_of_lt hl
  refine ⟨hn k.s, hn k.v, hn k.g, hn k.c, ?_, hn k.o⟩
  obtain ⟨a, c, rfl, h3⟩ := k.sh
  intro hne b hb
  obtain ⟨x, hx⟩ : ∃ x, g.shares[0]? = some x := ⟨g.shares[0]'(List.length_pos_iff.2 hne), List.getElem?_eq_getElem _⟩
  obtain ⟨b', rfl, hc, -⟩ := h3 0 x hx
  have : b' = b := by simpa [Value.ownBlock] using hb
  subst this
  have hl := World.block_lt_of_cell? _ _ hc
  exact Nat.not_le_of_lt hl
theorem XtW.outF {ex : Nat → Prop} (h : XtW W w P o g vS vV vG vC vH vO) (hPl : P < W.heap.size) (ho : Out ex w w') (hb : ∀ b, ex b → W.heap.size + 1 < b) (hf : HFre ex g vS vV vG vC vH vO) : XtW W w' P o g vS vV vG vC vH vO :=
  ⟨ho.get h.hH (fun e => by have := hb _ e; omega), ho.get h.hR (fun e => by have := hb _ e; omega), h.hP.out ho (fun e => by have := hb _ e; omega), h.hr.outF ho hf, h.out.trans ho (fun j hj e => by have := hb _ e; omega), Nat.lt_of_lt_of_le h.lt ho.size⟩
theorem XtW.new (h : XtW W w P o g vS vV vG vC vH vO) (hb : Below w.heap.size w w') : XtW W w' P o g vS vV vG vC vH vO :=
  ⟨keepB hb h.hH, keepB hb h.hR, h.hP.below hb, h.hr.keep hb, h.out.then (Out.of_below hb), Nat.lt_of_lt_of_le h.lt hb.size⟩
end
attribute [local go_sem ↓] exl_Hello exs_Hello
   attribute [local go_sem] ldr_Hello str_Hello
section
variable {w : World} {h : Hel} {vS vV vG vC vH vO : Value}
set_option maxRecDepth 100000 in
set_option maxHeartbeats 8000000 in
theorem rexts_any (hr : HRd w h vS vV vG vC vH vO) (hoz : h.others = []) (P : Nat) (s : HE.BS) (hp : TS w P (some s)) :
    Calls Try.prog 43 #[.agg (helCells h vS vV vG vC vH vO), .pointer (some ⟨P, 0, none⟩)] w (ExtV w P (HE.extN 64 h [] s)) := by
  obtain ⟨i0, hi, hii⟩ := Option.map_eq_some_iff.1 info_u16
  obtain ⟨hz0, hz1, hz2⟩ : i0.zero = some (.int .u16 0) ∧ i0.size = 1 ∧ i0.bytes = 2 := by simpa using hii
  clear hii
  obtain ⟨aS, cS, rfl⟩ := hr.s.sl
  obtain ⟨aV, cV, rfl⟩ := hr.v.sl
  obtain ⟨aG, cG, rfl⟩ := hr.g.sl
  obtain ⟨aC, cC, rfl⟩ := hr.c.sl
  obtain ⟨aH, cH, rfl⟩ := hr.sh.sl
  obtain ⟨aO, cO, rfl⟩ := hr.o.sl
  have hPl := hp.lt
  have hsl : s.length ≤ 1000000 := hp.2
  have hA := XtW.start hr hp
  have HA := hid hA
  obtain ⟨R0, hR0⟩ : ∃ R0, HE.extN 64 h [] s = R0 := ⟨_, rfl⟩
  have HE0 := hid (show R0 = HE.extN (64 - ([] : List Nat).length) h [] s from hR0.symm)
  rw [hR0]
  have HOZ := hid hoz
  have hltA := hA.lt
  rw [show ((w.alloc (.cells (helCells h (.slice aS h.suites.length cS) (.slice aV h.versions.length cV) (.slice aG h.groups.length cG) (.slice aC h.schemes.length cC) (.slice aH h.shares.length cH) (.slice aO h.others.length cO)) 38)).alloc (.cells zcells 38)).heap.size = _ from rfl] at hltA
  unfold helCells zcells at hltA
  clear hr hp hA hR0 hoz
  unfold helCells zcells at HA
  unfold helCells
  go_enter Try.func43, Try.ntmps43
  go_upto_region 1 with (fail)
  generalize (w.alloc (.cells #[.string ⟨h.random.toArray⟩, .string ⟨h.session.toArray⟩, .slice aS h.suites.length cS, .slice aV h.versions.length cV, .slice aG h.groups.length cG, .slice aC h.schemes.length cC, .slice aH h.shares.length cH, .bool h.shared, .string ⟨h.cookie.toArray⟩, .string ⟨h.name.toArray⟩, .bool h.early, .slice aO h.others.length cO] 38)).alloc (.cells #[.string ⟨#[]⟩, .string ⟨#[]⟩, .slice none 0 0, .slice none 0 0, .slice none 0 0, .slice none 0 0, .slice none 0 0, .bool false, .string ⟨#[]⟩, .string ⟨#[]⟩, .bool false, .slice none 0 0] 38) = wA at *
  go_wp2_with fail
  go_loopg [6] (s.length + 2) (fun gk v wr => ∃ (l : List Nat) (g : Hel) (r : HE.BS) (vS vV vG vC vH vO : Value), wr.ownsRow wA.heap.size 56 1 v l.length (u16s l) ∧ R0 = HE.extN (64 - l.length) g l r ∧ l.length ≤ 64 ∧ g.others.length ≤ l.length ∧ (∀ x ∈ l, x < 65536) ∧ HFre (fun b => v.ownBlock = some b) g vS vV vG vC vH vO ∧ XtW w wr P (some r) g vS vV vG vC vH vO ∧ wA.heap.size ≤ wr.heap.size ∧ r.length + 1 < gk)
  case atStart => exact ⟨[], h, s, _, _, _, _, _, _, World.ownsRow_nil _ _ _ _, HE0.out, by simp, by rw [HOZ.out]; simp, by simp, ⟨by simp [Value.ownBlock], by simp [Value.ownBlock], by simp [Value.ownBlock], by simp [Value.ownBlock], by simp [Value.ownBlock], by simp [Value.ownBlock]⟩, HA.out, Nat.le_refl _, Nat.lt_succ_self _⟩
  case round =>
    obtain ⟨l, g, r, vS, vV, vG, vC, vH, vO, hown, hR0, hl64, hgo, hlx, hfr, hX, hwA, hm⟩ := hrel
    have hrr := hX.hr
    obtain ⟨bS, dS, rfl⟩ := hrr.s.sl
    obtain ⟨bV, dV, rfl⟩ := hrr.v.sl
    obtain ⟨bG, dG, rfl⟩ := hrr.g.sl
    obtain ⟨bC, dC, rfl⟩ := hrr.c.sl
    obtain ⟨bH, dH, rfl⟩ := hrr.sh.sl
    obtain ⟨bO, dO, rfl⟩ := hrr.o.sl
    obtain ⟨a, cap, hv⟩ := owns_sl hown
    subst hv
    obtain ⟨hgP, hrl⟩ := hX.hP
    have c0 : wr.cell? ⟨P, 0, none⟩ = some (.string ⟨r.toArray⟩) := cell_at hgP 0
    have hemp := str_empty r
    obtain ⟨T, hT⟩ : ∃ T, (⟨r.toArray⟩ : ByteArray) = T := ⟨_, rfl⟩
    rw [hT] at c0 hemp
    have HX := hid hX
    have HO := hid hown
    have HR0 := hid hR0
    have HLX := hid hlx
    have HFR := hid hfr
    have hHH := hX.hH
    have hRR := hX.hR
    have hlt := hX.lt
    unfold helCells at hHH
    unfold zcells at hRR
    clear hgP hrr hT hX hown hR0 hlx HA HE0 hfr
    by_cases hr0 : r = []
    · rw [decide_eq_true hr0] at hemp
      subst hr0
      have HE1 := hid (HR0.out.trans (HE.extN_nil _ _ _))
      clear HR0
      have hlt0 : w.heap.size < wr.heap.size := by omega
      go_wp2_with fail
      refine bodyPost_ret (v := .tuple #[.agg (#[.string ⟨g.random.toArray⟩, .string ⟨g.session.toArray⟩, .slice bS g.suites.length dS, .slice bV g.versions.length dV, .slice bG g.groups.length dG, .slice bC g.schemes.length dC, .slice bH g.shares.length dH, .bool g.shared, .string ⟨g.cookie.toArray⟩, .string ⟨g.name.toArray⟩, .bool g.early, .slice bO g.others.length dO]), .int .i64 0]) (results_cell_tmp Try.results43 _ _ (w.heap.size + 1) 38 (#[.string ⟨g.random.toArray⟩, .string ⟨g.session.toArray⟩, .slice bS g.suites.length dS, .slice bV g.versions.length dV, .slice bG g.groups.length dG, .slice bC g.schemes.length dC, .slice bH g.shares.length dH, .bool g.shared, .string ⟨g.cookie.toArray⟩, .string ⟨g.name.toArray⟩, .bool g.early, .slice bO g.others.length dO]) (0, 0) _ (.int .i64 0) (by rfl) (by rfl) (by rw [← hget_eq]; go_simp) Try.underlying38 rfl (by rw [info_Hello]; go_simp)) rfl ?_
      have hoR : Out (· = w.heap.size + 1) wr (blk wr (w.heap.size + 1) (.cells #[.string ⟨g.random.toArray⟩, .string ⟨g.session.toArray⟩, .slice bS g.suites.length dS, .slice bV g.versions.length dV, .slice bG g.groups.length dG, .slice bC g.schemes.length dC, .slice bH g.shares.length dH, .bool g.shared, .string ⟨g.cookie.toArray⟩, .string ⟨g.name.toArray⟩, .bool g.early, .slice bO g.others.length dO] 38 (0, 0))) := (Out.refl (· = w.heap.size + 1) wr).blk (.inl rfl) _
      exact ExtV.good (g := g) (HX.out.out.blk (.inr (Nat.le_succ _)) _) HE1.out rfl (HX.out.hr.out hoR (hel_no (h := helZ) HX.out.hR))
    · rw [decide_eq_false hr0] at hemp
      have hnm := rnum_t HX.out.hP 2 (by omega)
      have hkl := HE.rn_lt 2 (some r) (by omega)
      have hno := HE.ext1_none (s := r)
      have hso := fun d r' k => HE.ext1_some (s := r) (d := d) (r := r') (k := k)
      unfold TGives at hnm
      generalize HE.rn ((some r).bind (HE.num 2)) = k at *
      generalize HE.rs ((some r).bind (HE.num 2)) = o1 at *
      have HNM := hid hnm
      have HNO := hid hno
      have HSO := hid hso
      have HR := hid hr0
      have hk2 : (k : Int) % 65536 = (k : Int) := by omega
      clear hnm hno hso hr0 hHH hRR
      go_wp2_with fail
      refine HNM.out.mono ?_
      rintro e w1 ⟨ho1, rfl, hp1⟩
      have H1 := hid (HX.out.text hPl ho1 hp1)
      have HO1 := hid (owns_out HO.out ho1 (fun j hj e => by have := HX.out.lt; omega))
      have hls := rlist_t hp1 2 (by omega)
      unfold TGives at hls
      have HLS := hid hls
      have hwA1 : wA.heap.size ≤ w1.heap.size := Nat.le_trans hwA ho1.size
      clear ho1 hp1 hls HNM HX HO hwA
      go_wp2_with fail
      refine HLS.out.mono ?_
      rintro e w2 ⟨ho2, rfl, hp2⟩
      have H2 := hid (H1.out.text hPl ho2 hp2)
      have HO2 := hid (owns_out HO1.out ho2 (fun j hj e => by have := H1.out.lt; omega))
      have hwA2 : wA.heap.size ≤ w2.heap.size := Nat.le_trans hwA1 ho2.size
      have hdl := HE.rv_text_len 2 o1
      clear ho2 hp2 HLS H1 HO1 hwA1 hlt
      generalize HE.rv (o1.bind (HE.text 2)) = D at *
      generalize HE.rs (o1.bind (HE.text 2)) = o2 at *
      have hP2 := H2.out.hP
      have hRR := H2.out.hR
      have hlt2 := H2.out.lt
      unfold zcells at hRR
      cases hx : HE.ext1 r with
      | none =>
        obtain rfl := HNO.out hx
        obtain ⟨sP, hgP, -⟩ := hP2
        have cP1 : w2.cell? ⟨P, 1, none⟩ = some (.int .i64 270) := cell_at hgP 1
        have HXX := hid (HR0.out.trans (HE.extN_no HR.out hx))
        clear hgP hx HR0 HNO HSO
        go_wp2_with fail
        refine bodyPost_ret (v := .tuple #[.agg (#[.string ⟨#[]⟩, .string ⟨#[]⟩, .slice none 0 0, .slice none 0 0, .slice none 0 0, .slice none 0 0, .slice none 0 0, .bool false, .string ⟨#[]⟩, .string ⟨#[]⟩, .bool false, .slice none 0 0]), .int .i64 270]) (results_cell_tmp Try.results43 _ _ (w.heap.size + 1) 38 (#[.string ⟨#[]⟩, .string ⟨#[]⟩, .slice none 0 0, .slice none 0 0, .slice none 0 0, .slice none 0 0, .slice none 0 0, .bool false, .string ⟨#[]⟩, .string ⟨#[]⟩, .bool false, .slice none 0 0]) (0, 0) _ (.int .i64 270) (by rfl) (by rfl) (by rw [← hget_eq]; go_simp) Try.underlying38 rfl (by rw [info_Hello]; go_simp)) rfl ?_
        exact ExtV.bad ((H2.out.out).blk (.inr (Nat.le_succ _)) _) HXX.out rfl
      | some y =>
        obtain ⟨k', d, r'⟩ := y
        obtain ⟨rfl, rfl, rfl⟩ := HSO.out _ _ _ hx
        obtain ⟨hgP, hrl'⟩ := hP2
        have cP1 : w2.cell? ⟨P, 1, none⟩ = some (.int .i64 0) := cell_at hgP 1
        have hgd := HE.ext1_good hx
        have HXE := hid hx
        clear hgP hx HNO HSO
        by_cases hfull : l.length = 64
        · have dl : decide ((64 : Int) ≤ (l.length : Int)) = true := decide_eq_true (by omega)
          have HXX := hid (show R0 = .error 270 from HR0.out.trans (by rw [hfull]; exact HE.extN_far HR.out))
          clear HR0 HXE hfull
          go_wp2_with fail
          refine bodyPost_ret (v := .tuple #[.agg (#[.string ⟨#[]⟩, .string ⟨#[]⟩, .slice none 0 0, .slice none 0 0, .slice none 0 0, .slice none 0 0, .slice none 0 0, .bool false, .string ⟨#[]⟩, .string ⟨#[]⟩, .bool false, .slice none 0 0]), .int .i64 270]) (results_cell_tmp Try.results43 _ _ (w.heap.size + 1) 38 (#[.string ⟨#[]⟩, .string ⟨#[]⟩, .slice none 0 0, .slice none 0 0, .slice none 0 0, .slice none 0 0, .slice none 0 0, .bool false, .string ⟨#[]⟩, .string ⟨#[]⟩, .bool false, .slice none 0 0]) (0, 0) _ (.int .i64 270) (by rfl) (by rfl) (by rw [← hget_eq]; go_simp) Try.underlying38 rfl (by rw [info_Hello]; go_simp)) rfl ?_
          exact ExtV.bad ((H2.out.out).blk (.inr (Nat.le_succ _)) _) HXX.out rfl
        · have dl : decide ((64 : Int) ≤ (l.length : Int)) = false := decide_eq_false (by omega)
          obtain ⟨m, hm64⟩ : ∃ m, 64 - l.length = m + 1 := ⟨63 - l.length, by omega⟩
          have hl63 : l.length < 64 := by omega
          rw [hm64] at HR0
          have hm64' : 64 - (l.length + 1) = m := by omega
          have HM64 := hid hm64'
          have HSA := hid (NumsAt.of HO2.out HLX.out)
          clear hfull hl64 hm64 hm64'
          go_wp2_with fail
          go_loopw [9] (fun i wr => ∃ j : Nat, j ≤ l.length ∧ i = .int .i64 (j : Int) ∧ (∀ x ∈ l.take j, x ≠ k ∧ x ≠ 41) ∧ wr = w2) (fun i _ => (l.length - intOf i).toNat)
          case atStart => exact ⟨0, Nat.zero_le _, rfl, by simp, rfl⟩
          case round =>
            obtain ⟨j, hj, rfl, hall, rfl⟩ := hrel
            have HALL := hid hall
            clear hall
            by_cases hjl : j < l.length
            · have dk : decide ((j : Int) < (l.length : Int)) = true := decide_eq_true (by omega)
              have hy := List.getElem?_eq_getElem hjl
              obtain ⟨a', c', hv', -, hat⟩ := HSA.out
              injection hv' with e1 _ e3
              subst e1 e3
              obtain ⟨gb, ha, cg⟩ := hat j _ hy
              subst ha
              have htk := List.take_succ_eq_append_getElem hjl
              have hmem := List.getElem_mem hjl
              have hyl := HLX.out _ hmem
              generalize l[j] = y at *
              have HTK := hid htk
              have HMEM := hid hmem
              have hi0 : 0 ≤ (j : Int) := by omega
              have hi1 : (j : Int) < (l.length : Int) := by omega
              clear hy hat htk hmem
              by_cases hyk : y = k
              · have dy : ((y : Int) == (k : Int)) = true := by rw [hyk]; exact beq_self_eq_true _
                have dyn : (y == k) = true := by rw [hyk]; exact beq_self_eq_true _
                have HXX := hid (HR0.out.trans (HE.extN_twice HR.out HXE.out (.inl (hyk ▸ HMEM.out))))
                clear HR0 hyk
                go_wp2_with fail
                refine bodyPost_ret (v := .tuple #[.agg (#[.string ⟨#[]⟩, .string ⟨#[]⟩, .slice none 0 0, .slice none 0 0, .slice none 0 0, .slice none 0 0, .slice none 0 0, .bool false, .string ⟨#[]⟩, .string ⟨#[]⟩, .bool false, .slice none 0 0]), .int .i64 271]) (results_cell_tmp Try.results43 _ _ (w.heap.size + 1) 38 (#[.string ⟨#[]⟩, .string ⟨#[]⟩, .slice none 0 0, .slice none 0 0, .slice none 0 0, .slice none 0 0, .slice none 0 0, .bool false, .string ⟨#[]⟩, .string ⟨#[]⟩, .bool false, .slice none 0 0]) (0, 0) _ (.int .i64 271) (by rfl) (by rfl) (by rw [← hget_eq]; go_simp) Try.underlying38 rfl (by rw [info_Hello]; go_simp)) rfl ?_
                exact ExtV.bad ((H2.out.out).blk (.inr (Nat.le_succ _)) _) HXX.out rfl
              · have dy : ((y : Int) == (k : Int)) = false := beq_eq_false_iff_ne.2 (by omega)
                have dyn : (y == k) = false := beq_eq_false_iff_ne.2 hyk
                by_cases hy4 : y = 41
                · have dz : ((y : Int) == 41) = true := by rw [hy4]; rfl
                  have dzn : (y == 41) = true := by rw [hy4]; rfl
                  have HXX := hid (HR0.out.trans (HE.extN_twice HR.out HXE.out (.inr (hy4 ▸ HMEM.out))))
                  clear HR0 hy4 hyk
                  go_wp2_with fail
                  refine bodyPost_ret (v := .tuple #[.agg (#[.string ⟨#[]⟩, .string ⟨#[]⟩, .slice none 0 0, .slice none 0 0, .slice none 0 0, .slice none 0 0, .slice none 0 0, .bool false, .string ⟨#[]⟩, .string ⟨#[]⟩, .bool false, .slice none 0 0]), .int .i64 271]) (results_cell_tmp Try.results43 _ _ (w.heap.size + 1) 38 (#[.string ⟨#[]⟩, .string ⟨#[]⟩, .slice none 0 0, .slice none 0 0, .slice none 0 0, .slice none 0 0, .slice none 0 0, .bool false, .string ⟨#[]⟩, .string ⟨#[]⟩, .bool false, .slice none 0 0]) (0, 0) _ (.int .i64 271) (by rfl) (by rfl) (by rw [← hget_eq]; go_simp) Try.underlying38 rfl (by rw [info_Hello]; go_simp)) rfl ?_
                  exact ExtV.bad ((H2.out.out).blk (.inr (Nat.le_succ _)) _) HXX.out rfl
                · have dz : ((y : Int) == 41) = false := beq_eq_false_iff_ne.2 (by omega)
                  have dzn : (y == 41) = false := beq_eq_false_iff_ne.2 hy4
                  have HYY := hid (And.intro hyk hy4)
                  clear hyk hy4
                  go_wp2_with fail
                  exact ⟨⟨j + 1, by omega, by go_num, by
                    rw [HTK.out]
                    intro x hx
                    rcases List.mem_append.1 hx with hx | hx
                    · exact HALL.out x hx
                    · rw [List.mem_singleton] at hx; subst hx; exact HYY.out, trivial⟩, by simp only [intOf]; omega⟩
            · have dk : decide ((j : Int) < (l.length : Int)) = false := decide_eq_false (by omega)
              obtain rfl : j = l.length := by omega
              have hnot : ¬ (k ∈ l ∨ 41 ∈ l) := by
                have := HALL.out
                rw [List.take_length] at this
                rintro (h1 | h1)
                · exact (this _ h1).1 rfl
                · exact (this _ h1).2 rfl
              have HNOT := hid hnot
              have hml : l.length + 1 ≤ maxLen := by unfold maxLen; omega
              clear hnot HALL HSA
              go_wp2_with (at_builtin; refine wpList_append_own_at _ rfl _ _ 35 rfl wA.heap.size 56 i0 (.int .u16 0) 1 2 Try.underlying35 hi hz0 hz1 hz2 rfl (by decide) _ _ _ rfl (HO2.out.alloc _) ⟨wr.heap.size, 0, none⟩ 1 1 [.int .u16 (k : Int)] rfl rfl ?c1 ?c2 hml ?c4 ?c5 ?_)
              case c1 => exact cell_one_new _ _ _
              case c2 => intro u hu; simp only [List.mem_cons, List.not_mem_nil, or_false] at hu; subst hu; rfl
              case c4 => omega
              case c5 => simp; omega
              intro v3 w3 ho3 hg3 _ hv3
              have h3 : XtW w w3 P (some r') g (.slice bS g.suites.length dS) (.slice bV g.versions.length dV) (.slice bG g.groups.length dG) (.slice bC g.schemes.length dC) (.slice bH g.shares.length dH) (.slice bO g.others.length dO) :=
                (H2.out.new (below_new (w := wr) (.cells #[.int .u16 (k : Int)] 56))).outF hPl (Out.of_grown hg3 (fun b e => e)) (fun b e => by have := (owns_lt HO2.out e).1; omega) HFR.out
              have hf3 : HFre (fun b => v3.ownBlock = some b) g (.slice bS g.suites.length dS) (.slice bV g.versions.length dV) (.slice bG g.groups.length dG) (.slice bC g.schemes.length dC) (.slice bH g.shares.length dH) (.slice bO g.others.length dO) := by
                rcases hv3 with hv3 | hv3
                · rw [hv3]; exact HFR.out
                · rw [hv3]
                  have hlt := H2.out.hr.lt
                  have hne : ∀ b, some (wr.heap.size + 1) = some b → wr.heap.size ≤ b := fun b e => by injection e with e; omega
                  exact ⟨fun h0 b hb e => hlt.s h0 b hb (hne b e), fun h0 b hb e => hlt.v h0 b hb (hne b e), fun h0 b hb e => hlt.g h0 b hb (hne b e), fun h0 b hb e => hlt.c h0 b hb (hne b e), fun h0 b hb e => hlt.sh h0 b hb (hne b e), fun h0 b hb e => hlt.o h0 b hb (hne b e)⟩
              have hb3 : ∀ b, v3.ownBlock = some b → b < w3.heap.size := fun b e => (owns_lt ho3 e).2
              have hwA3 : wA.heap.size ≤ w3.heap.size := Nat.le_trans hwA2 (by have := hg3.size; simp at this; omega)
              have HO3 := hid ho3
              have H3 := hid h3
              have HF3 := hid hf3
              have HB3 := hid hb3
              have hHH := h3.hH
              have hRR3 := h3.hR
              have hlt3 := h3.lt
              have hpt := rput_any h3.hr k hkl (by omega) D (Nat.le_trans hgd.2.1 hrl)
              have hpo := fun g' => HE.put_others (h := g) (k := k) (d := D) (h' := g')
              generalize hpx : HE.put g k D = X at *
              have HPT := hid hpt
              have HPX := hid hpx
              have HPO := hid hpo
              have hr'2 := hgd.2.2
              have hrE := (HE.ext1_len HXE.out)
              unfold helCells at hHH HPT
              unfold zcells at hRR3
              clear hg3 hv3 ho3 h3 hf3 hb3 hpt hpx hpo H2 HO2 HFR hRR hwA2 cP1 c0 hemp hml hgd
              go_wp2_with fail
              refine HPT.out.mono ?_
              cases X with
              | error c =>
                rintro e w4 ⟨hb4, cs, rfl, hs12, hone, hc0⟩
                have H4 := hid (H3.out.new hb4)
                have dc : (c != 0) = true := by simpa using hc0
                have dc2 : (c == 0) = false := beq_eq_false_iff_ne.2 hc0
                have HXX := hid (HR0.out.trans (HE.extN_bad HR.out HXE.out HNOT.out HPX.out))
                have hRR4 := H4.out.hR
                have hlt4 := H4.out.lt
                have hlt5 : w.heap.size < w4.heap.size := by omega
                unfold zcells at hRR4
                clear hHH hRR3 hb4 HPT hc0
                go_wp2_with fail
                refine bodyPost_ret (v := .tuple #[.agg (#[.string ⟨#[]⟩, .string ⟨#[]⟩, .slice none 0 0, .slice none 0 0, .slice none 0 0, .slice none 0 0, .slice none 0 0, .bool false, .string ⟨#[]⟩, .string ⟨#[]⟩, .bool false, .slice none 0 0]), .int .i64 c]) (results_cell_tmp Try.results43 _ _ (w.heap.size + 1) 38 (#[.string ⟨#[]⟩, .string ⟨#[]⟩, .slice none 0 0, .slice none 0 0, .slice none 0 0, .slice none 0 0, .slice none 0 0, .bool false, .string ⟨#[]⟩, .string ⟨#[]⟩, .bool false, .slice none 0 0]) (0, 0) _ (.int .i64 c) (by rfl) (by rfl) (by rw [← hget_eq]; go_simp) Try.underlying38 rfl (by rw [info_Hello]; go_simp)) rfl ?_
                exact ExtV.bad (((H4.out.new (below_new (w := w4) (.cells cs 38))).out).blk (.inr (Nat.le_succ _)) _) HXX.out rfl
              | ok g' =>
                rintro e w4 ⟨hb4, uS, uV, uG, uC, uH, uO, rfl, hr4, hf4⟩
                obtain ⟨eS, fS, rfl⟩ := hr4.s.sl
                obtain ⟨eV, fV, rfl⟩ := hr4.v.sl
                obtain ⟨eG, fG, rfl⟩ := hr4.g.sl
                obtain ⟨eC, fC, rfl⟩ := hr4.c.sl
                obtain ⟨eH, fH, rfl⟩ := hr4.sh.sl
                obtain ⟨eO, fO, rfl⟩ := hr4.o.sl
                have H4 := hid (H3.out.new hb4)
                have HXX := hid (HR0.out.trans (HE.extN_on HR.out HXE.out HNOT.out HPX.out))
                have hHH4 := H4.out.hH
                have hlt4 := H4.out.lt
                have HF4 := hid (hf4 _ HB3.out HF3.out)
                have HR4 := hid hr4
                have HO4 := hid (owns_out HO3.out (Out.of_below (ex := fun _ => False) hb4) (fun _ _ e => e))
                have hwA4 : wA.heap.size ≤ w4.heap.size := Nat.le_trans hwA3 hb4.size
                unfold helCells at hHH4
                unfold helCells
                clear hHH hRR3 hb4 HPT hr4 hf4 H3 HF3 HO3
                go_wp2_with fail
                have hb5 := below_new (w := w4) (.cells (helCells g' (.slice eS g'.suites.length fS) (.slice eV g'.versions.length fV) (.slice eG g'.groups.length fG) (.slice eC g'.schemes.length fC) (.slice eH g'.shares.length fH) (.slice eO g'.others.length fO)) 38)
                have h5 := H4.out.new hb5
                have hl5 : w.heap.size < (w4.alloc (.cells (helCells g' (.slice eS g'.suites.length fS) (.slice eV g'.versions.length fV) (.slice eG g'.groups.length fG) (.slice eC g'.schemes.length fC) (.slice eH g'.shares.length fH) (.slice eO g'.others.length fO)) 38)).heap.size := by have := h5.lt; omega
                have ho5 : Out (· = w.heap.size) (w4.alloc (.cells (helCells g' (.slice eS g'.suites.length fS) (.slice eV g'.versions.length fV) (.slice eG g'.groups.length fG) (.slice eC g'.schemes.length fC) (.slice eH g'.shares.length fH) (.slice eO g'.others.length fO)) 38)) (blk (w4.alloc (.cells (helCells g' (.slice eS g'.suites.length fS) (.slice eV g'.versions.length fV) (.slice eG g'.groups.length fG) (.slice eC g'.schemes.length fC) (.slice eH g'.shares.length fH) (.slice eO g'.others.length fO)) 38)) w.heap.size (.cells (helCells g' (.slice eS g'.suites.length fS) (.slice eV g'.versions.length fV) (.slice eG g'.groups.length fG) (.slice eC g'.schemes.length fC) (.slice eH g'.shares.length fH) (.slice eO g'.others.length fO)) 38 (0, 0))) := (Out.refl (· = w.heap.size) _).blk (.inl rfl) _
                have h6 := h5.turn hPl (HR4.out.keep hb5) ho5 (blk_heap hl5) (hel_no h5.hH)
                have ho6 := owns_out HO4.out ((Out.of_below hb5).then ho5) (fun j hj e => by omega)
                have hs6 : wA.heap.size ≤ (blk (w4.alloc (.cells (helCells g' (.slice eS g'.suites.length fS) (.slice eV g'.versions.length fV) (.slice eG g'.groups.length fG) (.slice eC g'.schemes.length fC) (.slice eH g'.shares.length fH) (.slice eO g'.others.length fO)) 38)) w.heap.size (.cells (helCells g' (.slice eS g'.suites.length fS) (.slice eV g'.versions.length fV) (.slice eG g'.groups.length fG) (.slice eC g'.schemes.length fC) (.slice eH g'.shares.length fH) (.slice eO g'.others.length fO)) 38 (0, 0))).heap.size := Nat.le_trans hwA4 (Nat.le_trans hb5.size ho5.size)
                have H6 := hid h6
                have HO6 := hid ho6
                have HS6 := hid hs6
                clear hb5 h5 hl5 ho5 h6 ho6 hs6
                unfold helCells at HO6 H6 HS6
                go_roundg (gk - 1)
                case measure => omega
                case rel =>
                  refine ⟨l ++ [k], g', r', _, _, _, _, _, _, ?_, ?_, ?_, ?_, ?_, HF4.out, H6.out, HS6.out, ?_⟩
                  · rw [List.length_append, List.length_singleton, u16s_append]; exact HO6.out
                  · rw [List.length_append, List.length_singleton, HM64.out]; exact HXX.out
                  · rw [List.length_append, List.length_singleton]; omega
                  · rw [List.length_append, List.length_singleton]; have := HPO.out g' rfl; omega
                  · intro x hx
                    rcases List.mem_append.1 hx with hx | hx
                    · exact HLX.out x hx
                    · rw [List.mem_singleton] at hx; subst hx; exact hkl
                  · omega
end
end Go.Proofs.Ytliblhfabnjpkaa
