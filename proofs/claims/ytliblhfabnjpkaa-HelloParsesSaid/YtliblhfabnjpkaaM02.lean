/- The parser: lists of numbers. The parser: shares. -/
import Derived.Test.YtliblhfabnjpkaaM01
import Derived.Laws.OwnMore
namespace Go.Proofs.Ytliblhfabnjpkaa
open Go Go.RowKit

def u16s (l : List Nat) : List Value := l.map fun (q : Nat) => Value.int .u16 (q : Int)
theorem u16s_length (l : List Nat) : (u16s l).length = l.length := by simp [u16s]
theorem u16s_append (l m : List Nat) : u16s (l ++ m) = u16s l ++ u16s m := by simp [u16s]
theorem info_u16 : (Try.prog.info? 56).map (fun i => (i.zero, i.size, i.bytes)) = some (some (.int .u16 0), 1, 2) := by kernel_rfl
section
variable {w : World} {p : Nat} {t : HE.BS} {hv : Value}
def isNum16 (x : Nat) (_ : World) (v : Value) : Prop := v = .int .u16 (x : Int)
set_option maxHeartbeats 1000000 in
theorem num1_any (h : PAt w p t hv) (ht : t.length ≤ 9223372036854775807) : Gives 60 #[.pointer (some ⟨p, 0, none⟩)] w p hv (HE.num 2 t) isNum16 := by
  have hnm := num_any h 2 (by omega) ht
  unfold Gives at hnm ⊢
  cases hr : HE.num 2 t with
  | none =>
    rw [hr] at hnm
    have HN := hid hnm
    clear hnm hr
    go_enter Try.func60, Try.ntmps60
    go_wp2_with fail
    refine HN.out.mono ?_
    rintro e w' ⟨ho, rfl⟩
    exact ⟨rfl, ho, rfl⟩
  | some xr =>
    obtain ⟨x, r⟩ := xr
    rw [hr] at hnm
    have hx := (HE.num_some hr).2
    have hx2 : (x : Int) % 65536 = (x : Int) := by omega
    have HN := hid hnm
    clear hnm hr hx
    go_enter Try.func60, Try.ntmps60
    go_wp2_with fail
    refine HN.out.mono ?_
    rintro e w' ⟨ho, v, rfl, hv1, hp1⟩
    obtain rfl : v = .int .i64 (x : Int) := hv1
    have HO := hid ho
    have HP := hid hp1
    clear ho hp1
    go_wp2_with fail
    go_ret
    exact ⟨HO.out, _, rfl, rfl, HP.out⟩
end
theorem pairs_step (a b : UInt8) (r : HE.BS) : HE.pairs (a :: b :: r) = (HE.pairs r).map fun l => (a.toNat * 256 + b.toNat) :: l := rfl
/-- A list of numbers in its own row: or a panic. -/
abbrev After16 (B : Nat) (r : Option (List Nat)) (e : Ending) (w' : World) : Prop :=
  match r with
  | some l => ∃ v, e = .returned v ∧ w'.ownsRow B 56 1 v l.length (u16s l)
  | none => e = pan 270
theorem num2_eq (a b : UInt8) (t : HE.BS) : HE.num 2 (a :: b :: t) = some (HE.numL [a, b], t) := by
  unfold HE.num HE.take
  rw [if_pos (by simp)]
  rfl
theorem numL2 (a b : UInt8) : HE.numL [a, b] = a.toNat * 256 + b.toNat := by simp [HE.numL]
/-- One number more. -/
theorem num2_some {t r : HE.BS} {x : Nat} (h : HE.num 2 t = some (x, r)) : HE.pairs t = (HE.pairs r).map (fun l => x :: l) ∧ t.length = r.length + 2 := by
  match t, h with
  | [], h => cases h
  | [_], h => cases h
  | a :: b :: t', h =>
    rw [num2_eq] at h
    injection h with h
    injection h with h1 h2
    subst h2
    rw [pairs_step, ← h1, numL2]
    exact ⟨rfl, rfl⟩
theorem num2_none {t : HE.BS} (h : HE.num 2 t = none) (hne : t ≠ []) : HE.pairs t = none := by
  match t, h, hne with
  | [], _, hne => exact absurd rfl hne
  | [_], _, _ => rfl
  | a :: b :: t', h, _ => rw [num2_eq] at h; cases h
theorem owns_out {w w' : World} {B : Nat} {e : TypeId} {sz : Nat} {v : Value} {n : Nat} {xs : List Value} {ex : Nat → Prop} (h : w.ownsRow B e sz v n xs) (ho : Out ex w w') (hn : ∀ k, B ≤ k → ¬ ex k) : w'.ownsRow B e sz v n xs := by
  obtain ⟨hl, h | ⟨g, cap, cur, h1, h2, h3, hr⟩⟩ := h
  · exact ⟨hl, .inl h⟩
  · exact ⟨hl, .inr ⟨g, cap, cur, h1, h2, ho.get h3 (hn g h2), hr⟩⟩
theorem owns_sl {w : World} {B : Nat} {e : TypeId} {sz : Nat} {v : Value} {n : Nat} {xs : List Value} (h : w.ownsRow B e sz v n xs) : ∃ a cap, v = .slice a n cap := by
  obtain ⟨_, ⟨rfl, rfl⟩ | ⟨g, cap, cur, rfl, _⟩⟩ := h
  · exact ⟨_, _, rfl⟩
  · exact ⟨_, _, rfl⟩
theorem owns_base {w : World} {B C : Nat} {e : TypeId} {sz : Nat} {v : Value} {n : Nat} {xs : List Value} (h : w.ownsRow B e sz v n xs) (hc : C ≤ B) : w.ownsRow C e sz v n xs := by
  obtain ⟨hl, h | ⟨g, cap, cur, h1, h2, hr⟩⟩ := h
  · exact ⟨hl, .inl h⟩
  · exact ⟨hl, .inr ⟨g, cap, cur, h1, Nat.le_trans hc h2, hr⟩⟩
/-- How long the text is that a parser still has. -/
def strAt (w : World) (p : Nat) : Nat := match w.cell? ⟨p, 0, none⟩ with | some (.string s) => s.size | _ => 0
theorem strAt_of {w : World} {p : Nat} {t : HE.BS} {hv : Value} (h : PAt w p t hv) : strAt w p = t.length := by
  have c0 : w.cell? ⟨p, 0, none⟩ = some (.string ⟨t.toArray⟩) := cell_at h 0
  unfold strAt
  rw [c0]
  exact text_size t
section
variable {w : World}
set_option maxHeartbeats 2000000 in
theorem list16_any (t : HE.BS) (ht : t.length ≤ 1000000) : Calls Try.prog 58 #[.string ⟨t.toArray⟩, .func (.func 60) #[] #[]] w fun e w' => Below w.heap.size w w' ∧ After16 w.heap.size (HE.pairs t) e w' := by
  obtain ⟨i0, hi, hii⟩ := Option.map_eq_some_iff.1 info_u16
  obtain ⟨hz0, hz1, hz2⟩ : i0.zero = some (.int .u16 0) ∧ i0.size = 1 ∧ i0.bytes = 2 := by simpa using hii
  clear hii
  have hp0 : PAt (w.alloc (.cells #[.string ⟨t.toArray⟩, .pointer none] 75)) w.heap.size t (.pointer none) := alloc_at _ _
  have hb0 := below_new (w := w) (.cells #[.string ⟨t.toArray⟩, .pointer none] 75)
  go_enter Try.func58, Try.ntmps58
  go_wp2_with fail
  go_loopw [4] (fun v wr => ∃ (dn : List Nat) (r : HE.BS), HE.pairs t = (HE.pairs r).map (fun l => dn ++ l) ∧ 2 * dn.length + r.length = t.length ∧ wr.ownsRow (w.heap.size + 1) 56 1 v dn.length (u16s dn) ∧ PAt wr w.heap.size r (.pointer none) ∧ Below w.heap.size w wr ∧ w.heap.size < wr.heap.size) (fun _ wr => strAt wr w.heap.size)
  case atStart => exact ⟨[], t, by cases HE.pairs t <;> rfl, by simp, World.ownsRow_nil _ _ _ _, hp0, hb0, by simp⟩
  case round =>
    obtain ⟨dn, r, hpr, hln, hown, hp, hb, hsz⟩ := hrel
    have hme := strAt_of hp
    have HP := hid hp
    have HO := hid hown
    have HB := hid hb
    have HPR := hid hpr
    have HME := hid hme
    clear hp0 hb0 hpr hb hme
    obtain ⟨a, cap, hv⟩ := owns_sl hown
    subst hv
    clear hown
    have c0 : wr.cell? ⟨w.heap.size, 0, none⟩ = some (.string ⟨r.toArray⟩) := cell_at HP.out 0
    have hemp := str_empty r
    obtain ⟨T, hT⟩ : ∃ T, (⟨r.toArray⟩ : ByteArray) = T := ⟨_, rfl⟩
    rw [hT] at c0 hemp
    clear hT
    by_cases hr0 : r = []
    · rw [decide_eq_true hr0] at hemp
      subst hr0
      have hpe : HE.pairs t = some dn := by rw [HPR.out]; show some (dn ++ []) = _; rw [List.append_nil]
      have HPE := hid hpe
      clear hpe hln HME HPR HP
      go_wp2_with fail
      go_ret
      rw [HPE.out]
      exact ⟨HB.out, _, rfl, owns_base HO.out (Nat.le_succ _)⟩
    · rw [decide_eq_false hr0] at hemp
      have hnm := num1_any HP.out (by omega)
      unfold Gives at hnm
      cases hr : HE.num 2 r with
      | none =>
        rw [hr] at hnm
        have HN := hid hnm
        have hpe : HE.pairs t = none := by rw [HPR.out, num2_none hr hr0]; rfl
        have HPE := hid hpe
        clear hnm hr hpe hr0
        go_wp2_with fail
        refine HN.out.mono ?_
        rintro e w' ⟨ho, rfl⟩
        have hb' := HB.out.trans (ho.below (fun k e => by rw [e]; exact Nat.le_refl _) HB.out.size)
        refine ⟨rfl, hb', ?_⟩
        rw [HPE.out]
        rfl
      | some xr =>
        obtain ⟨x, r'⟩ := xr
        rw [hr] at hnm
        have HN := hid hnm
        obtain ⟨k1, k2⟩ := num2_some hr
        have hpe : HE.pairs t = (HE.pairs r').map (fun l => (dn ++ [x]) ++ l) := by
          rw [HPR.out, k1]
          cases HE.pairs r' with
          | none => rfl
          | some l => simp
        have HPE := hid hpe
        have hme2 : strAt wr w.heap.size = r'.length + 2 := by rw [HME.out, k2]
        have HM2 := hid hme2
        clear hnm hr hpe hr0 k1 hme2 HPR HME
        go_wp2_with fail
        refine HN.out.mono ?_
        rintro e w1 ⟨ho, v, rfl, hv1, hp1⟩
        obtain rfl : v = .int .u16 (x : Int) := hv1
        have HO1 := hid (owns_out HO.out ho (fun k hk e => by omega))
        have HP1 := hid hp1
        have HB1 := hid (HB.out.trans (ho.below (fun k e => by rw [e]; exact Nat.le_refl _) HB.out.size))
        have hsz1 : w.heap.size < w1.heap.size := Nat.lt_of_lt_of_le hsz ho.size
        have hml : dn.length + 1 ≤ maxLen := by unfold maxLen; omega
        clear ho hp1 HO HP HB HN c0 hemp
        go_wp2_with (at_builtin; refine wpList_append_own _ rfl _ _ 35 rfl (w.heap.size + 1) 56 i0 (.int .u16 0) 1 2 Try.underlying35 hi hz0 hz1 hz2 rfl (by decide) _ _ _ rfl (HO1.out.alloc _) ⟨w1.heap.size, 0, none⟩ 1 1 [.int .u16 (x : Int)] rfl rfl ?c1 ?c2 hml ?c4 ?c5 ?_)
        case c1 => exact cell_one_new _ _ _
        case c2 => intro u hu; simp only [List.mem_cons, List.not_mem_nil, or_false] at hu; subst hu; rfl
        case c4 => omega
        case c5 => simp; omega
        intro v' w2 hown' hgrow _
        have hb2 := hid ((below_alloc HB1.out _).grown hgrow (by simp; omega) (fun g hg => Nat.le_of_succ_le (block_le HO1.out hg)))
        have hp2 := hid (hget_grown (keepB (below_new _) HP1.out) hgrow (fun e => by have := block_le HO1.out e.symm; omega))
        have HO2 := hid hown'
        have hsz2 : w.heap.size < w2.heap.size := by have := hgrow.size; simp at this; omega
        have HS2 := hid hsz2
        clear hown' hgrow hml hsz hsz1 hsz2
        go_wp2_with fail
        refine ⟨⟨dn ++ [x], r', HPE.out, ?_, ?_, hp2.out, hb2.out, HS2.out⟩, ?_⟩
        · rw [List.length_append, List.length_singleton]; omega
        · rw [List.length_append, u16s_append]; exact HO2.out
        · rw [strAt_of (show PAt w2 _ r' _ from hp2.out), HM2.out]; omega
def isNums (B : Nat) (x : List Nat) (w : World) (v : Value) : Prop := w.ownsRow B 56 1 v x.length (u16s x)
theorem PAt.below {w w' : World} {p : Nat} {t : HE.BS} {hv : Value} (h : PAt w p t hv) (hb : Below w.heap.size w w') : PAt w' p t hv := keepB hb h
set_option maxHeartbeats 2000000 in
theorem numbers_any {p : Nat} {t : HE.BS} {hv : Value} (h : PAt w p t hv) (n : Nat) (hn : n ≤ 2) (ht : t.length ≤ 1000000) : Gives 36 #[.pointer (some ⟨p, 0, none⟩), .int .i64 (n : Int)] w p hv (HE.numbers n t) (isNums w.heap.size) := by
  have hsm := some_any h n hn (by omega)
  unfold Gives at hsm ⊢
  unfold HE.numbers
  cases hr : HE.some' n t with
  | none =>
    rw [hr] at hsm
    have HN := hid hsm
    clear hsm hr
    simp only [Option.bind_none]
    go_enter Try.func36, Try.ntmps36
    go_wp2_with fail
    refine HN.out.mono ?_
    rintro e w' ⟨ho, rfl⟩
    exact ⟨rfl, ho, rfl⟩
  | some ar =>
    obtain ⟨a, r⟩ := ar
    rw [hr] at hsm
    have hal := (HE.text_some (HE.some_some hr).1).2
    have HN := hid hsm
    clear hsm hr
    simp only [Option.bind_some]
    go_enter Try.func36, Try.ntmps36
    go_wp2_with fail
    refine HN.out.mono ?_
    rintro e w1 ⟨ho, v, rfl, hv1, hp1⟩
    obtain rfl : v = .string ⟨a.toArray⟩ := hv1
    have hl := list16_any (w := w1) a (by omega)
    have HL := hid hl
    have HO := hid ho
    have HP := hid hp1
    have HS := hid ho.size
    clear hl ho hp1 HN
    cases hq : HE.pairs a with
    | none =>
      rw [hq] at HL
      go_wp2_with fail
      refine HL.out.mono ?_
      rintro e w' ⟨hb, rfl⟩
      refine ⟨rfl, HO.out.then (Out.of_below hb), ?_⟩
      rw [hq]
      rfl
    | some l =>
      rw [hq] at HL
      go_wp2_with fail
      refine HL.out.mono ?_
      rintro e w' ⟨hb, v, rfl, hv2⟩
      have HB := hid hb
      have HV := hid hv2
      clear hb hv2
      go_wp2_with fail
      go_ret
      refine ⟨HO.out.then (Out.of_below HB.out), ?_⟩
      rw [hq]
      exact ⟨_, rfl, owns_base HV.out HS.out, HP.out.below HB.out⟩
end
end Go.Proofs.Ytliblhfabnjpkaa

namespace Go.Proofs.Ytliblhfabnjpkaa
open Go Go.RowKit

section
variable {w : World} {p : Nat} {t : HE.BS} {hv : Value}
def isShare (x : Nat × HE.BS) (_ : World) (v : Value) : Prop := v = .agg #[.int .u16 (x.1 : Int), .string ⟨x.2.toArray⟩]
set_option maxHeartbeats 2000000 in
theorem sh1_any (h : PAt w p t hv) (ht : t.length ≤ 1000000) : Gives 76 #[.pointer (some ⟨p, 0, none⟩)] w p hv (HE.share t) isShare := by
  have hb0 := below_new (w := w) (.cells #[.int .u16 0, .string ⟨#[]⟩] 86)
  have hp0 := h.below hb0
  have hnm := num_any hp0 2 (by omega) (by omega)
  unfold Gives at hnm ⊢
  unfold HE.share
  have HR := hid (show hget (w.alloc (.cells #[.int .u16 0, .string ⟨#[]⟩] 86)) w.heap.size = some (.cells #[.int .u16 0, .string ⟨#[]⟩] 86 (0, 0)) from alloc_at _ _)
  have hlt := hget_lt h
  cases hr : HE.num 2 t with
  | none =>
    rw [hr] at hnm
    have HN := hid hnm
    clear hnm hr
    simp only [Option.bind_none]
    go_enter Try.func76, Try.ntmps76
    go_wp2_with fail
    refine HN.out.mono ?_
    rintro e w' ⟨ho, rfl⟩
    exact ⟨rfl, (Out.of_below hb0).then ho, rfl⟩
  | some xr =>
    obtain ⟨g, r⟩ := xr
    rw [hr] at hnm
    obtain ⟨hl1, hg⟩ := HE.num_some hr
    have hg2 : (g : Int) % 65536 = (g : Int) := by omega
    have HN := hid hnm
    clear hnm hr hg
    simp only [Option.bind_some]
    go_enter Try.func76, Try.ntmps76
    go_wp2_with fail
    refine HN.out.mono ?_
    rintro e w1 ⟨ho, v, rfl, hv1, hp1⟩
    obtain rfl : v = .int .i64 (g : Int) := hv1
    have hsm := some_any hp1 2 (by omega) (by omega)
    unfold Gives at hsm
    have HO := hid ((Out.of_below hb0).then ho)
    have HR1 := hid (ho.get HR.out (by omega))
    have hlt1 : p < w1.heap.size := hget_lt hp1
    have hls : w.heap.size < w1.heap.size := hget_lt HR1.out
    clear ho hp1 HN HR hb0 hp0
    cases hq : HE.some' 2 r with
    | none =>
      rw [hq] at hsm
      have HS := hid hsm
      clear hsm
      go_wp2_with fail
      refine HS.out.mono ?_
      rintro e w' ⟨ho2, rfl⟩
      refine ⟨rfl, HO.out.then ho2, ?_⟩
      rw [hq]
      rfl
    | some kr =>
      obtain ⟨k, r2⟩ := kr
      rw [hq] at hsm
      have HS := hid hsm
      clear hsm
      go_wp2_with fail
      refine HS.out.mono ?_
      rintro e w2 ⟨ho2, v, rfl, hv2, hp2⟩
      obtain rfl : v = .string ⟨k.toArray⟩ := hv2
      have HO2 := hid (HO.out.then ho2)
      have HP2 := hid hp2
      have HR2 := ho2.get HR1.out (by omega)
      have c0 : w2.cell? ⟨w.heap.size, 0, none⟩ = some (.int .u16 0) := cell_at HR2 0
      have c1 : w2.cell? ⟨w.heap.size, 1, none⟩ = some (.string ⟨#[]⟩) := cell_at HR2 1
      have f0 := free_at HR2
      clear ho2 hp2 HR1
      go_wp2_with fail
      have HR3 := hget_setCell (hget_setCell HR2 0 (.int .u16 (g : Int))) 1 (.string ⟨k.toArray⟩)
      have e0 : ((w2.setCell ⟨w.heap.size, 0, none⟩ (.int .u16 (g : Int))).setCell ⟨w.heap.size, 1, none⟩ (.string ⟨k.toArray⟩)).cell? ⟨w.heap.size, 0, none⟩ = some (.int .u16 (g : Int)) := cell_at HR3 0
      have e1 : ((w2.setCell ⟨w.heap.size, 0, none⟩ (.int .u16 (g : Int))).setCell ⟨w.heap.size, 1, none⟩ (.string ⟨k.toArray⟩)).cell? ⟨w.heap.size, 1, none⟩ = some (.string ⟨k.toArray⟩) := cell_at HR3 1
      refine bodyPost_ret (v := .agg #[.int .u16 (g : Int), .string ⟨k.toArray⟩]) (by simp [results, Try.results76, go_sem, e0, e1]) rfl ⟨Out.setCell (Out.setCell HO2.out (.inr (Nat.le_refl _)) _) (.inr (Nat.le_refl _)) _, ?_⟩
      rw [hq]
      exact ⟨_, rfl, rfl, hget_setCell_ne (hget_setCell_ne HP2.out (by show p ≠ w.heap.size; omega) _) (by show p ≠ w.heap.size; omega) _⟩
end
def shareVs (l : List (Nat × HE.BS)) : List Value := l.flatMap fun x => [.int .u16 (x.1 : Int), .string ⟨x.2.toArray⟩]
theorem shareVs_append (l m : List (Nat × HE.BS)) : shareVs (l ++ m) = shareVs l ++ shareVs m := by simp [shareVs]
theorem info_Share : (Try.prog.info? 86).map (fun i => (i.zero, i.size, i.bytes)) = some (some (.agg #[.int .u16 0, .string ⟨#[]⟩]), 2, 24) := by kernel_rfl
theorem cell_two_new (w : World) (a b : Value) (T : TypeId) : ∀ (j : Nat) (u : Value), ([a, b] : List Value)[j]? = some u → (w.alloc (.cells #[a, b] T)).cell? ((⟨w.heap.size, 0, none⟩ : Addr).add j) = some u := by
  intro j u hu
  have h := alloc_at w (.cells #[a, b] T)
  match j, hu with
  | 0, hu => injection hu with hu; subst hu; exact cell_at h 0
  | 1, hu => injection hu with hu; subst hu; exact cell_at h 1
/-- A list of shares in its own row: or a panic. -/
abbrev AfterS (B : Nat) (r : Option (List (Nat × HE.BS))) (e : Ending) (w' : World) : Prop :=
  match r with
  | some l => ∃ v, e = .returned v ∧ w'.ownsRow B 86 2 v l.length (shareVs l)
  | none => e = pan 270
section
variable {w : World}
set_option maxHeartbeats 2000000 in
theorem listS_any (t : HE.BS) (ht : t.length ≤ 1000000) : Calls Try.prog 75 #[.string ⟨t.toArray⟩, .func (.func 76) #[] #[]] w fun e w' => Below w.heap.size w w' ∧ AfterS w.heap.size (HE.shareL t) e w' := by
  obtain ⟨i0, hi, hii⟩ := Option.map_eq_some_iff.1 info_Share
  obtain ⟨hz0, hz1, hz2⟩ : i0.zero = some (.agg #[.int .u16 0, .string ⟨#[]⟩]) ∧ i0.size = 2 ∧ i0.bytes = 24 := by simpa using hii
  clear hii
  have hp0 : PAt (w.alloc (.cells #[.string ⟨t.toArray⟩, .pointer none] 75)) w.heap.size t (.pointer none) := alloc_at _ _
  have hb0 := below_new (w := w) (.cells #[.string ⟨t.toArray⟩, .pointer none] 75)
  go_enter Try.func75, Try.ntmps75
  go_wp2_with fail
  go_loopw [4] (fun v wr => ∃ (dn : List (Nat × HE.BS)) (r : HE.BS), HE.shareL t = (HE.shareL r).map (fun l => dn ++ l) ∧ 2 * dn.length + r.length ≤ t.length ∧ wr.ownsRow (w.heap.size + 1) 86 2 v dn.length (shareVs dn) ∧ PAt wr w.heap.size r (.pointer none) ∧ Below w.heap.size w wr ∧ w.heap.size < wr.heap.size) (fun _ wr => strAt wr w.heap.size)
  case atStart => exact ⟨[], t, by cases HE.shareL t <;> rfl, by simp, World.ownsRow_nil _ _ _ _, hp0, hb0, by simp⟩
  case round =>
    obtain ⟨dn, r, hpr, hln, hown, hp, hb, hsz⟩ := hrel
    have hme := strAt_of hp
    have HP := hid hp
    have HO := hid hown
    have HB := hid hb
    have HPR := hid hpr
    have HME := hid hme
    clear hp0 hb0 hpr hb hme
    obtain ⟨a, cap, hv⟩ := owns_sl hown
    subst hv
    clear hown
    have c0 : wr.cell? ⟨w.heap.size, 0, none⟩ = some (.string ⟨r.toArray⟩) := cell_at HP.out 0
    have hemp := str_empty r
    obtain ⟨T, hT⟩ : ∃ T, (⟨r.toArray⟩ : ByteArray) = T := ⟨_, rfl⟩
    rw [hT] at c0 hemp
    clear hT
    by_cases hr0 : r = []
    · rw [decide_eq_true hr0] at hemp
      subst hr0
      have hpe : HE.shareL t = some dn := by rw [HPR.out]; show some (dn ++ []) = _; rw [List.append_nil]
      have HPE := hid hpe
      clear hpe hln HME HPR HP
      go_wp2_with fail
      go_ret
      rw [HPE.out]
      exact ⟨HB.out, _, rfl, owns_base HO.out (Nat.le_succ _)⟩
    · rw [decide_eq_false hr0] at hemp
      have hnm := sh1_any HP.out (by omega)
      unfold Gives at hnm
      cases hr : HE.share r with
      | none =>
        rw [hr] at hnm
        have HN := hid hnm
        have hpe : HE.shareL t = none := by rw [HPR.out, HE.shareL_none hr0 hr]; rfl
        have HPE := hid hpe
        clear hnm hr hpe hr0
        go_wp2_with fail
        refine HN.out.mono ?_
        rintro e w' ⟨ho, rfl⟩
        have hb' := HB.out.trans (ho.below (fun k e => by rw [e]; exact Nat.le_refl _) HB.out.size)
        refine ⟨rfl, hb', ?_⟩
        rw [HPE.out]
        rfl
      | some xr =>
        obtain ⟨x, r'⟩ := xr
        rw [hr] at hnm
        have HN := hid hnm
        have k1 := HE.shareL_step hr0 hr
        have k2 := (HE.share_len hr).1
        have hpe : HE.shareL t = (HE.shareL r').map (fun l => (dn ++ [x]) ++ l) := by
          rw [HPR.out, k1]
          cases HE.shareL r' with
          | none => rfl
          | some l => simp
        have HPE := hid hpe
        have hme2 : r'.length + 2 ≤ strAt wr w.heap.size := by rw [HME.out]; exact k2
        have HM2 := hid hme2
        clear hnm hr hpe hr0 k1 hme2 HPR HME
        go_wp2_with fail
        refine HN.out.mono ?_
        rintro e w1 ⟨ho, v, rfl, hv1, hp1⟩
        obtain rfl : v = .agg #[.int .u16 (x.1 : Int), .string ⟨x.2.toArray⟩] := hv1
        have HO1 := hid (owns_out HO.out ho (fun k hk e => by omega))
        have HP1 := hid hp1
        have HB1 := hid (HB.out.trans (ho.below (fun k e => by rw [e]; exact Nat.le_refl _) HB.out.size))
        have hsz1 : w.heap.size < w1.heap.size := Nat.lt_of_lt_of_le hsz ho.size
        have hml : dn.length + 1 ≤ maxLen := by unfold maxLen; omega
        clear ho hp1 HO HP HB HN c0 hemp
        go_wp2_with (at_builtin; refine wpList_append_own _ rfl _ _ 36 rfl (w.heap.size + 1) 86 i0 (.agg #[.int .u16 0, .string ⟨#[]⟩]) 2 24 Try.underlying36 hi hz0 hz1 hz2 rfl (by decide) _ _ _ rfl (HO1.out.alloc _) ⟨w1.heap.size, 0, none⟩ 1 1 [.int .u16 (x.1 : Int), .string ⟨x.2.toArray⟩] rfl rfl ?c1 ?c2 hml ?c4 ?c5 ?_)
        case c1 => exact cell_two_new _ _ _ _
        case c2 => intro u hu; simp only [List.mem_cons, List.not_mem_nil, or_false] at hu; rcases hu with rfl | rfl <;> rfl
        case c4 => omega
        case c5 => simp; omega
        intro v' w2 hown' hgrow _
        have hb2 := hid ((below_alloc HB1.out _).grown hgrow (by simp; omega) (fun g hg => Nat.le_of_succ_le (block_le HO1.out hg)))
        have hp2 := hid (hget_grown (keepB (below_new _) HP1.out) hgrow (fun e => by have := block_le HO1.out e.symm; omega))
        have HO2 := hid hown'
        have hsz2 : w.heap.size < w2.heap.size := by have := hgrow.size; simp at this; omega
        have HS2 := hid hsz2
        clear hown' hgrow hml hsz hsz1 hsz2
        go_wp2_with fail
        refine ⟨⟨dn ++ [x], r', HPE.out, ?_, ?_, hp2.out, hb2.out, HS2.out⟩, ?_⟩
        · rw [List.length_append, List.length_singleton]; omega
        · rw [List.length_append, shareVs_append]; exact HO2.out
        · rw [strAt_of (show PAt w2 _ r' _ from hp2.out)]; have := HM2.out; omega
end
end Go.Proofs.Ytliblhfabnjpkaa
