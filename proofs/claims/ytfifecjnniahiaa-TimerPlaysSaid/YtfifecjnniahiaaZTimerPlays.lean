/- The law TimerPlays: for every input it returns true and leaves its arguments as they were. -/
import Derived.Test.YtfifecjnniahiaaM01
import Derived.ProofKit
import Derived.OpenShut
import Derived.ShutString
import Derived.ChangeOld
import Derived.Deep.Slices
import Derived.Deep.Fields
import Derived.ChangeSame
import Derived.Test.YtfifecjnniahiaaM02
import Derived.Deep.RegionHeld3
import Derived.Deep.DeepCutAuto
namespace Go.Proofs.Ytfifecjnniahiaa
open Go.RowKit Go.ChangeShapes Go.WideShapes Go.Deep

section
variable {H : Type} {enc : TypeId × Value → H} {P : Program} {w : World} {base : Nat} {spare : Nat → Bool} {held : Bool}
/-- The kit's own page on structs has this theorem for copying: a slice of structs, each field of one cell. -/
theorem open_slice_fields {t e : TypeId} {fs : Array Field} {fuel : Nat} {cs : List Value} {x : DataW H × List MemPlace} (ht : P.underlying t = some (.slice e)) (he : P.underlying e = some (.struct fs))
    (hone : oneCellFields P fs = true) (hC : P.cellsOf e = fs.size) (h : DataW.trod enc P w base spare held fuel t cs = some x) :
    (cs = [.slice none 0 0] ∧ x = (.nil, [])) ∨
    ∃ (a : Addr) (len cap m : Nat) (D : Nat → DataW H) (Pl : Nat → List MemPlace), cs = [.slice (some a) len cap] ∧ base ≤ a.block ∧ len ≤ cap ∧ cap ≤ maxLen ∧ m = (if spare a.block then cap else len) ∧
      x = (.slice ((List.range len).map D) ((List.range (m - len)).map fun j => D (len + j)), MemPlace.row a (m * fs.size) ++ (List.range m).flatMap Pl) ∧
      ∀ i, i < m → ∃ (ys : List (DataW H × List MemPlace)) (n : Nat), D i = .agg (ys.map (·.1)) ∧ Pl i = ys.flatMap (·.2) ∧ ys.length = fs.size ∧
        ∀ (j : Nat) (f : Field), fs[j]? = some f → ∃ (v : Value) (y : DataW H × List MemPlace), w.cell? (a.add (i * fs.size + j)) = some v ∧ ys[j]? = some y ∧ DataW.trod enc P w base spare held n f.type [v] = some y := by
  rcases open_slice ht h with h0 | ⟨a, len, cap, m, n, D, Pl, hcs, hb, hl, hm, hmm, hx, hi⟩
  · exact .inl h0
  · refine .inr ⟨a, len, cap, m, D, Pl, hcs, hb, hl, hm, hmm, by rw [hC] at hx; exact hx, fun i him => ?_⟩
    obtain ⟨cs', hc, ht'⟩ := hi i him
    rw [hC] at hc
    obtain ⟨ys, n', hn', hy, hlen, hyl, hf⟩ := DataW.trod_struct he ht'
    obtain ⟨_, hcl, hat⟩ := World.cells?_some hc
    simp only [Prod.mk.injEq] at hy
    refine ⟨ys, n', hy.1, hy.2, hyl, fun j f hj => ?_⟩
    obtain ⟨ho, hk⟩ := hone_of hone j f hj
    have hjl : j < fs.size := (Array.getElem?_eq_some_iff.1 hj).1
    have hcell := hat j hjl
    have hv : cs'[j]? = some (cs'[j]'(by omega)) := List.getElem?_eq_getElem (by omega)
    have h1 := hf j f hj
    rw [ho, hk] at h1
    have hone' : (cs'.drop j).take 1 = [cs'[j]'(by omega)] := by
      rw [List.drop_eq_getElem_cons (by omega)]
      rfl
    rw [hone'] at h1
    have hys : ys[j]? = some (ys[j]'(by omega)) := List.getElem?_eq_getElem (by omega)
    refine ⟨_, _, ?_, hys, h1.trans hys⟩
    rw [← Go.Deep.add_add, hcell, hv]

/-- A slice of structs that came in: its length, and the cells of its elements at a plain address. -/
theorem slice_fields_at {t e : TypeId} {fs : Array Field} {fuel : Nat} {a : Option Addr} {len cap : Nat} {x : DataW H × List MemPlace} (ht : P.underlying t = some (.slice e)) (he : P.underlying e = some (.struct fs))
    (hone : oneCellFields P fs = true) (hC : P.cellsOf e = fs.size) (hpos : 0 < fs.size) (h : DataW.trod enc P w base (fun _ => true) held fuel t [.slice a len cap] = some x) :
    len ≤ maxLen ∧ (len = 0 ∨ ∃ b off, a = some ⟨b, off, none⟩ ∧ b < w.heap.size ∧ ∀ i, i < len → ∃ n, ∀ (j : Nat) (f : Field), fs[j]? = some f →
      ∃ (v : Value) (y : DataW H × List MemPlace), w.cell? ⟨b, off + i * fs.size + j, none⟩ = some v ∧ DataW.trod enc P w base (fun _ => true) held n f.type [v] = some y) := by
  rcases open_slice_fields ht he hone hC h with ⟨hcs, _⟩ | ⟨a', l, c, m, D, Pl, hcs, _, hl, hm, hmm, _, hi⟩
  · simp only [List.cons.injEq, Value.slice.injEq, and_true] at hcs
    obtain ⟨rfl, rfl, rfl⟩ := hcs
    exact ⟨Nat.zero_le _, .inl rfl⟩
  · simp only [List.cons.injEq, Value.slice.injEq, and_true] at hcs
    obtain ⟨rfl, rfl, rfl⟩ := hcs
    refine ⟨by omega, ?_⟩
    by_cases h0 : len = 0
    · exact .inl h0
    · right
      have hmc : m = cap := by simpa using hmm
      obtain ⟨ys, n, _, _, _, hf⟩ := hi 0 (by omega)
      obtain ⟨v, y, hc, _, _⟩ := hf 0 fs[0] (by simp [hpos])
      obtain ⟨b, off, spot⟩ := a'
      have hspot : spot = none := by simpa [Addr.add] using World.cell?_spot hc
      subst hspot
      refine ⟨b, off, rfl, by simpa [add_plain] using World.block_lt_of_cell? w _ hc, fun i hil => ?_⟩
      obtain ⟨ys, n, _, _, _, hf⟩ := hi i (by omega)
      refine ⟨n, fun j f hj => ?_⟩
      obtain ⟨v, y, hc, _, ht'⟩ := hf j f hj
      rw [add_plain, ← Nat.add_assoc] at hc
      exact ⟨v, y, hc, ht'⟩
end

end Go.Proofs.Ytfifecjnniahiaa

namespace Go.Proofs.Ytfifecjnniahiaa
open Go Go.RowKit
section
variable {w : World} {P l m n : Nat} {t : IE.TS}

theorem quarter {s v : Nat} (h : Num s v) : (IE.D.order v 4598175219545276416 = some .lt ∧ IE.D.mul 4616189618054758400 4598175219545276416 = some (pof v)) ∨ ((IE.D.order v 4598175219545276416 = some .eq ∨ IE.D.order v 4598175219545276416 = some .gt) ∧ IE.D.mul 4616189618054758400 v = some (pof v)) := by
  have ho := IE.order_eq h.vi (show IE.c025 < IE.inf by decide)
  have hm := (sums h).m
  rw [show (4598175219545276416 : Nat) = IE.c025 from rfl, ho]
  cases hc : compare v IE.c025
  · have := Nat.compare_eq_lt.1 hc
    rw [Nat.max_eq_right (Nat.le_of_lt this)] at hm
    exact .inl ⟨rfl, hm⟩
  · have := Nat.compare_eq_eq.1 hc
    rw [this, Nat.max_self] at hm
    rw [this]
    exact .inr ⟨.inl rfl, hm⟩
  · have := Nat.compare_eq_gt.1 hc
    rw [Nat.max_eq_left (Nat.le_of_lt this)] at hm
    exact .inr ⟨.inr rfl, hm⟩
/-- What the sum and its way to a word give, as values that nothing unfolds. -/
theorem sum_word {s v : Nat} (h : Num s v) : ∃ V : Value, (∀ w, (binOp .add 33 (.float .f64 s) (.float .f64 (pof v))).run Try.prog w = .ok V w) ∧ ∀ w, (convert 33 22 V).run Try.prog w = .ok (.int .u64 ((IE.due s v : Nat) : Int)) w := by
  have hs := sums h
  refine ⟨.float .f64 (qof s v), fun w => by rw [run_fadd, hs.a, fres_some], fun w => ?_⟩
  have h3 := floor_run hs.qi (by rw [hs.f]; exact hs.d) w
  rw [hs.f] at h3
  exact h3
theorem rdone {s v s' v' x X : Nat} (h : w.heap[P]? = some (.cells (tcells l m s v x) 38 (0, 0))) (wd : World)
    (e : ∃ k, wd = (((w.setCell ⟨P, 2, none⟩ (.float .f64 s')).setCell ⟨P, 3, none⟩ (.float .f64 v')).setCell ⟨P, 4, none⟩ (.int .u64 (X : Int))).drewN k ∨ wd = (((w.setCell ⟨P, 3, none⟩ (.float .f64 v')).setCell ⟨P, 2, none⟩ (.float .f64 s')).setCell ⟨P, 4, none⟩ (.int .u64 (X : Int))).drewN k) :
    TAt wd P 38 l m ⟨true, s', v', X⟩ ∧ Out (· = P) w wd := by
  obtain ⟨k, rfl | rfl⟩ := e
  · exact ⟨⟨s', v', at_setCell (at_setCell (at_setCell h 2 (.float .f64 s')) 3 (.float .f64 v')) 4 (.int .u64 (X : Int)), rfl, rfl⟩, ((((Out.refl (fun k => k = P) w).setCell (p := ⟨P, 2, none⟩) rfl _).setCell (p := ⟨P, 3, none⟩) rfl _).setCell (p := ⟨P, 4, none⟩) rfl _).drewN k⟩
  · exact ⟨⟨s', v', at_setCell (at_setCell (at_setCell h 3 (.float .f64 v')) 2 (.float .f64 s')) 4 (.int .u64 (X : Int)), rfl, rfl⟩, ((((Out.refl (fun k => k = P) w).setCell (p := ⟨P, 3, none⟩) rfl _).setCell (p := ⟨P, 2, none⟩) rfl _).setCell (p := ⟨P, 4, none⟩) rfl _).drewN k⟩

theorem keep4 (w : World) (P k : Nat) (v : Value) (hk : k ≠ 4) : (w.setCell ⟨P, 4, none⟩ v).drew.cell? ⟨P, k, none⟩ = w.cell? ⟨P, k, none⟩ := by
  show (w.setCell ⟨P, 4, none⟩ v).cell? ⟨P, k, none⟩ = _
  exact World.cell?_setCell_other _ _ _ _ (by first | (simp; done) | (simp; omega))

theorem rsample_far (hn : 4294967296 < n) (h : TAt w P 38 l m t) :
    Calls Try.prog 14 #[.pointer (some ⟨P, 0, none⟩), .int .u64 (n : Int)] w fun e w' => e = .returned (.tuple #[]) ∧ TAt w' P 38 l m (t.sample l m n) ∧ Out (· = P) w w' := by
  have hn' : (4294967296 : Int) < (n : Int) := by omega
  have ht : t.sample l m n = t := by unfold IE.TS.sample; rw [if_pos hn]
  rw [ht]
  go_enter Try.func14, Try.ntmps14
  go_wp2_with fail
  refine bodyPost_ret (results_none rfl _ _ _) rfl ⟨rfl, h, Out.refl _ _⟩

attribute [-go_sem] run_fadd in
set_option maxHeartbeats 1000000 in
theorem rsample_first (hn : n ≤ 4294967296) (hh : t.has = false) (h : TAt w P 38 l m t) :
    Calls Try.prog 14 #[.pointer (some ⟨P, 0, none⟩), .int .u64 (n : Int)] w fun e w' => e = .returned (.tuple #[]) ∧ TAt w' P 38 l m (t.sample l m n) ∧ Out (· = P) w w' := by
  have hn' : decide ((4294967296 : Int) < (n : Int)) = false := decide_eq_false (by omega)
  have ht : t.sample l m n = ⟨true, IE.ofN n, IE.half (IE.ofN n), IE.clampT l m (IE.due (IE.ofN n) (IE.half (IE.ofN n)))⟩ := by unfold IE.TS.sample; rw [if_neg (by omega)]; simp only [hh, Bool.false_eq_true, if_false]
  rw [ht]
  have hx := ofn_le hn
  have hxi := Nat.lt_of_le_of_lt hx IE.M32_inf
  have hnum : Num (IE.ofN n) (IE.half (IE.ofN n)) := ⟨hx, Nat.le_trans (IE.half_le (Nat.le_of_lt hxi)) hx⟩
  have hdv := IE.half_eq hxi
  rw [show IE.c2 = 4611686018427387904 from rfl] at hdv
  have hof := IE.ofN_eq n
  obtain ⟨V, k2, k3⟩ := sum_word hnum
  have hq := quarter hnum
  obtain ⟨s, v, hP, hs⟩ := h
  rw [hh] at hs
  obtain ⟨s1, s2⟩ : IE.nanB s = true ∧ IE.nanB v = true := hs
  have c0 : w.cell? ⟨P, 0, none⟩ = some (.int .u64 (l : Int)) := cell_at hP 0
  have c1 : w.cell? ⟨P, 1, none⟩ = some (.int .u64 (m : Int)) := cell_at hP 1
  have c2 : w.cell? ⟨P, 2, none⟩ = some (.float .f64 s) := cell_at hP 2
  have c3 : w.cell? ⟨P, 3, none⟩ = some (.float .f64 v) := cell_at hP 3
  have c4 : w.cell? ⟨P, 4, none⟩ = some (.int .u64 (t.val : Int)) := cell_at hP 4
  have hf := free_at hP
  have HP := hid hP
  clear hP hx hxi ht hn hnum s2
  generalize pof (IE.half (IE.ofN n)) = pv at *
  generalize IE.due (IE.ofN n) (IE.half (IE.ofN n)) = dv at *
  generalize IE.half (IE.ofN n) = y at *
  generalize IE.ofN n = x at *
  have hc : Hid (min (max (dv : Int) (l : Int)) (m : Int) = ((IE.clampT l m dv : Nat) : Int)) := hid (by unfold IE.clampT; omega)
  rcases hq with ⟨q1, q2⟩ | ⟨q1 | q1, q2⟩
  all_goals
    go_enter Try.func14, Try.ntmps14
    go_wp2_with (go_at_call 26; refine (none_any _ _).mono ?_; rintro e w' ⟨rfl, rfl⟩)
    have g0 : ((w.setCell ⟨P, 2, none⟩ (.float .f64 x)).setCell ⟨P, 3, none⟩ (.float .f64 y)).cell? ⟨P, 0, none⟩ = some (.int .u64 (l : Int)) := by go_simp; try rfl
    have g1 : ((w.setCell ⟨P, 2, none⟩ (.float .f64 x)).setCell ⟨P, 3, none⟩ (.float .f64 y)).cell? ⟨P, 1, none⟩ = some (.int .u64 (m : Int)) := by go_simp; try rfl
    have g2 : ((w.setCell ⟨P, 2, none⟩ (.float .f64 x)).setCell ⟨P, 3, none⟩ (.float .f64 y)).cell? ⟨P, 2, none⟩ = some (.float .f64 x) := by go_simp; try rfl
    have g4 : ((w.setCell ⟨P, 2, none⟩ (.float .f64 x)).setCell ⟨P, 3, none⟩ (.float .f64 y)).cell? ⟨P, 4, none⟩ = some (.int .u64 (t.val : Int)) := by go_simp; try rfl
    have gf : ((w.setCell ⟨P, 2, none⟩ (.float .f64 x)).setCell ⟨P, 3, none⟩ (.float .f64 y)).frozen? ⟨P, 4, none⟩ = false := by go_simp; try rfl
    obtain ⟨wz, hwz⟩ : ∃ wz, wz = (w.setCell ⟨P, 2, none⟩ (.float .f64 x)).setCell ⟨P, 3, none⟩ (.float .f64 y) := ⟨_, rfl⟩
    rw [← hwz] at g0 g1 g2 g4 gf ⊢
    have HWZ := hid hwz
    clear hwz c0 c1 c2 c3 c4 hf q1 q2
    generalize Value.float .f64 x = Sv at g2 k2 ⊢
    generalize Value.float .f64 pv = Pv at k2 ⊢
    go_region_held3 (fun w' => w'.cell? ⟨P, 0, none⟩ = some (.int .u64 (l : Int)) ∧ w'.cell? ⟨P, 1, none⟩ = some (.int .u64 (m : Int)) ∧ w'.cell? ⟨P, 2, none⟩ = some Sv) (first | (refine ⟨?_, ?_, ?_⟩ <;> (rw [keep4 _ _ _ _ (by decide)]; assumption)) | go_keep) (fail)
    go_wp2_with fail
    rw [hc.out]
    go_end0
    exact ⟨rfl, rdone HP.out _ ⟨1, .inl (by rw [HWZ.out]; rfl)⟩⟩
end
end Go.Proofs.Ytfifecjnniahiaa

namespace Go.Proofs.Ytfifecjnniahiaa
open Go Go.RowKit
section
variable {w : World} {P l m n : Nat} {t : IE.TS}

theorem ord_neg {d : Nat} (h1 : 1 ≤ d) (h : d < IE.inf) : IE.D.order (IE.sgn + d) 0 = some .lt := by
  have hm := IE.vm_pos h1
  unfold Ieee.Format.order
  rw [IE.read_neg (Nat.lt_trans h inf_sgn), IE.read_rung h, IE.read_rung (show 0 < IE.inf by decide)]
  simp only [Ieee.Datum.opposite, Ieee.Datum.order, Bool.not_false]
  rw [IE.signed_neg, IE.signed_pos, show IE.vm 0 = 0 by decide, Nat.zero_mul]
  congr 1
  refine Int.compare_eq_lt.2 ?_
  have := Nat.mul_pos (Nat.pos_of_ne_zero hm) (Nat.two_pow_pos ((-1074 + (IE.ve d : Int) - min (-1074 + (IE.ve d : Int)) (-1074 + (IE.ve 0 : Int))).toNat))
  omega
theorem neg_neg {d : Nat} (h : d < IE.sgn) : Op.negFloat .f64 (IE.sgn + d) = d := by
  unfold Op.negFloat
  rw [show FloatKind.f64.format.exponentBits + FloatKind.f64.format.fractionBits = 63 from rfl]
  have hs : IE.sgn = 2 ^ 63 := by decide
  rw [hs] at h ⊢
  refine Nat.eq_of_testBit_eq fun i => ?_
  rw [Nat.testBit_xor, Nat.testBit_two_pow]
  rcases Nat.lt_trichotomy i 63 with hi | rfl | hi
  · rw [Nat.testBit_two_pow_add_gt hi, decide_eq_false (by omega), Bool.xor_false]
  · rw [Nat.testBit_two_pow_add_eq]; simp
  · have e1 : (2 ^ 63 + d).testBit i = false := Nat.testBit_lt_two_pow (Nat.lt_of_lt_of_le (show 2 ^ 63 + d < 2 ^ 64 by omega) (Nat.pow_le_pow_right (by decide) hi))
    have e2 : d.testBit i = false := Nat.testBit_lt_two_pow (Nat.lt_trans h (Nat.pow_lt_pow_right (by decide) hi))
    rw [e1, e2, decide_eq_false (by omega)]; rfl

/-- The difference, as the reference takes it. -/
theorem sub_cases {a b : Nat} (ha : a < IE.inf) (hb : b < IE.inf) : ∃ r, IE.D.sub a b = some r ∧ ((r = IE.dif a b ∧ (IE.D.order r 0 = some .eq ∨ IE.D.order r 0 = some .gt)) ∨ (IE.D.order r 0 = some .lt ∧ ∀ (P : Program) (w : World), (Op.unary .neg (.float .f64 r)).run P w = .ok (.float .f64 (IE.dif a b)) w)) := by
  have hd : IE.dif a b < IE.inf := by
    rcases Nat.le_total a b with h | h
    · exact Nat.lt_of_le_of_lt (IE.dif_le (Nat.le_of_lt hb) h (Nat.le_refl _)) hb
    · exact Nat.lt_of_le_of_lt (IE.dif_le (Nat.le_of_lt ha) (Nat.le_refl _) h) ha
  by_cases h : b ≤ a
  · refine ⟨_, IE.sub_eq ha hb h, .inl ⟨by unfold IE.dif; rw [if_pos h], ?_⟩⟩
    have e : IE.dif a b = IE.RN 0 (IE.val 0 a - IE.val 0 b) := by unfold IE.dif; rw [if_pos h]
    rw [← e]
    exact ord_zero hd
  · have e : IE.dif a b = IE.RN 0 (IE.val 0 b - IE.val 0 a) := by unfold IE.dif; rw [if_neg h]
    refine ⟨_, IE.sub_neg ha hb (by omega), .inr ?_⟩
    rw [← e]
    refine ⟨ord_neg (IE.dif_pos ha hb (by omega)) hd, fun P w => ?_⟩
    have hz := neg_neg (Nat.lt_trans hd inf_sgn)
    show (pure (Value.float .f64 (Op.negFloat .f64 (IE.sgn + IE.dif a b))) : Sem Value).run P w = _
    rw [hz]
    rfl

attribute [-go_sem] run_fadd in
set_option maxHeartbeats 1000000 in
theorem rsample_more (hn : n ≤ 4294967296) (hh : t.has = true) (hok : t.ok) (h : TAt w P 38 l m t) :
    Calls Try.prog 14 #[.pointer (some ⟨P, 0, none⟩), .int .u64 (n : Int)] w fun e w' => e = .returned (.tuple #[]) ∧ TAt w' P 38 l m (t.sample l m n) ∧ Out (· = P) w w' := by
  have hn' : decide ((4294967296 : Int) < (n : Int)) = false := decide_eq_false (by omega)
  obtain ⟨s, v, hP, hs⟩ := h
  rw [hh] at hs
  obtain ⟨rfl, rfl⟩ : s = t.s ∧ v = t.v := hs
  have ht : t.sample l m n = ⟨true, IE.mixR 4606056518893174784 4593671619917905920 t.s (IE.ofN n), IE.mixR 4604930618986332160 4598175219545276416 t.v (IE.dif t.s (IE.ofN n)), IE.clampT l m (IE.due (IE.mixR 4606056518893174784 4593671619917905920 t.s (IE.ofN n)) (IE.mixR 4604930618986332160 4598175219545276416 t.v (IE.dif t.s (IE.ofN n))))⟩ := by
    unfold IE.TS.sample; rw [if_neg (by omega)]; simp only [hh, if_true, IE.c0875, IE.c0125, IE.c075, IE.c025]
  have hok2 := IE.TS.sample_ok hok l m n
  rw [ht] at hok2 ⊢
  have hnum : Num _ _ := ⟨hok2.s, hok2.v⟩
  have hx := ofn_le hn
  have hxi := Nat.lt_of_le_of_lt hx IE.M32_inf
  have hsi := Nat.lt_of_le_of_lt hok.s IE.M32_inf
  have hd := IE.dif_le (Nat.le_of_lt IE.M32_inf) hok.s hx
  obtain ⟨r, hr, hrd⟩ := sub_cases hsi hxi
  have HMV := hid (mixok_v hok.v hd)
  have HMS := hid (mixok_s hok.s hx)
  have ho := nan_rung hsi
  have hof := IE.ofN_eq n
  have c0 : w.cell? ⟨P, 0, none⟩ = some (.int .u64 (l : Int)) := cell_at hP 0
  have c1 : w.cell? ⟨P, 1, none⟩ = some (.int .u64 (m : Int)) := cell_at hP 1
  have c2 : w.cell? ⟨P, 2, none⟩ = some (.float .f64 t.s) := cell_at hP 2
  have c3 : w.cell? ⟨P, 3, none⟩ = some (.float .f64 t.v) := cell_at hP 3
  have c4 : w.cell? ⟨P, 4, none⟩ = some (.int .u64 (t.val : Int)) := cell_at hP 4
  have hf := free_at hP
  have HP := hid hP
  clear hP hx hxi ht hn hok hok2 hsi hd hh
  generalize IE.dif t.s (IE.ofN n) = d at *
  generalize IE.ofN n = x at *
  obtain ⟨has, ts, tv, tx⟩ := t
  simp only at *
  obtain ⟨s', hs'⟩ : ∃ s', IE.mixR 4606056518893174784 4593671619917905920 ts x = s' := ⟨_, rfl⟩
  obtain ⟨v', hv'⟩ : ∃ v', IE.mixR 4604930618986332160 4598175219545276416 tv d = v' := ⟨_, rfl⟩
  have hms := fun w => rmix_fin _ _ _ _ HMS.out w
  have hmv := fun w => rmix_fin _ _ _ _ HMV.out w
  rw [hs'] at hms hnum
  rw [hv'] at hmv hnum
  rw [hs', hv']
  have HA := hid hms
  have HB := hid hmv
  obtain ⟨V, k2, k3⟩ := sum_word hnum
  have hq := quarter hnum
  replace hrd : (r = d ∧ (IE.D.order r 0 = some .eq ∨ IE.D.order r 0 = some .gt)) ∨ (IE.D.order r 0 = some .lt ∧ ∀ (w : World), (Op.unary .neg (.float .f64 r)).run Try.prog w = .ok (.float .f64 d) w) := hrd.imp id fun h => ⟨h.1, h.2 _⟩
  clear hs' hv' HMV HMS hms hmv hnum
  generalize pof v' = pv at *
  generalize IE.due s' v' = dv at *
  have hc : Hid (min (max (dv : Int) (l : Int)) (m : Int) = ((IE.clampT l m dv : Nat) : Int)) := hid (by unfold IE.clampT; omega)
  rcases hrd with ⟨rfl, hrd | hrd⟩ | ⟨hrd, hng⟩ <;> rcases hq with ⟨q1, q2⟩ | ⟨q1 | q1, q2⟩
  all_goals
    go_enter Try.func14, Try.ntmps14
    go_wp2_with (first | (go_at_call 26; refine (none_any _ _).mono ?_; rintro e w' ⟨rfl, rfl⟩) | (go_at_call 22; with_reducible refine (HB.out _).mono ?_; rintro e w' ⟨rfl, rfl⟩) | (go_at_call 22; with_reducible refine (HA.out _).mono ?_; rintro e w' ⟨rfl, rfl⟩))
    have g0 : ((w.setCell ⟨P, 3, none⟩ (.float .f64 v')).setCell ⟨P, 2, none⟩ (.float .f64 s')).cell? ⟨P, 0, none⟩ = some (.int .u64 (l : Int)) := by go_simp; try rfl
    have g1 : ((w.setCell ⟨P, 3, none⟩ (.float .f64 v')).setCell ⟨P, 2, none⟩ (.float .f64 s')).cell? ⟨P, 1, none⟩ = some (.int .u64 (m : Int)) := by go_simp; try rfl
    have g2 : ((w.setCell ⟨P, 3, none⟩ (.float .f64 v')).setCell ⟨P, 2, none⟩ (.float .f64 s')).cell? ⟨P, 2, none⟩ = some (.float .f64 s') := by go_simp; try rfl
    have g4 : ((w.setCell ⟨P, 3, none⟩ (.float .f64 v')).setCell ⟨P, 2, none⟩ (.float .f64 s')).cell? ⟨P, 4, none⟩ = some (.int .u64 (tx : Int)) := by go_simp; try rfl
    have gf : ((w.setCell ⟨P, 3, none⟩ (.float .f64 v')).setCell ⟨P, 2, none⟩ (.float .f64 s')).frozen? ⟨P, 4, none⟩ = false := by go_simp; try rfl
    obtain ⟨wz, hwz⟩ : ∃ wz, wz = (w.setCell ⟨P, 3, none⟩ (.float .f64 v')).setCell ⟨P, 2, none⟩ (.float .f64 s') := ⟨_, rfl⟩
    rw [← hwz] at g0 g1 g2 g4 gf ⊢
    have HWZ := hid hwz
    clear hwz c0 c1 c2 c3 c4 hf q1 q2 hrd hr
    generalize Value.float .f64 s' = Sv at g2 k2 ⊢
    generalize Value.float .f64 pv = Pv at k2 ⊢
    go_region_held3 (fun w' => w'.cell? ⟨P, 0, none⟩ = some (.int .u64 (l : Int)) ∧ w'.cell? ⟨P, 1, none⟩ = some (.int .u64 (m : Int)) ∧ w'.cell? ⟨P, 2, none⟩ = some Sv) (first | (refine ⟨?_, ?_, ?_⟩ <;> (rw [keep4 _ _ _ _ (by decide)]; assumption)) | go_keep) (fail)
    go_wp2_with fail
    rw [hc.out]
    go_end0
    exact ⟨rfl, rdone HP.out _ ⟨1, .inr (by rw [HWZ.out]; rfl)⟩⟩
end
end Go.Proofs.Ytfifecjnniahiaa

namespace Go.Proofs.Ytfifecjnniahiaa
open Go Go.RowKit
section
variable {w : World} {P l m n : Nat} {t : IE.TS}
theorem rsample_any (hok : t.ok) (h : TAt w P 38 l m t) :
    Calls Try.prog 14 #[.pointer (some ⟨P, 0, none⟩), .int .u64 (n : Int)] w fun e w' => e = .returned (.tuple #[]) ∧ TAt w' P 38 l m (t.sample l m n) ∧ Out (· = P) w w' := by
  by_cases hn : n ≤ 4294967296
  · cases hh : t.has
    · exact rsample_first hn hh h
    · exact rsample_more hn hh hok h
  · exact rsample_far (by omega) h

set_option maxHeartbeats 1000000 in
theorem rbackoff_any (hv : t.val ≤ 4294967296) (h : TAt w P 38 l m t) :
    Calls Try.prog 16 #[.pointer (some ⟨P, 0, none⟩)] w fun e w' => e = .returned (.tuple #[]) ∧ TAt w' P 38 l m (t.backoff m) ∧ Out (· = P) w w' := by
  obtain ⟨s, v, hP, hs⟩ := h
  have c1 : w.cell? ⟨P, 1, none⟩ = some (.int .u64 (m : Int)) := cell_at hP 1
  have c4 : w.cell? ⟨P, 4, none⟩ = some (.int .u64 (t.val : Int)) := cell_at hP 4
  have hb : 2 * (t.val : Int) ≤ 18446744073709551615 := by omega
  have hf := free_at hP 4
  have HP := hid hP
  have ev : min (2 * (t.val : Int)) (m : Int) = (((t.backoff m).val : Nat) : Int) := by
    have h2 : 2 * t.val % 18446744073709551616 = 2 * t.val := Nat.mod_eq_of_lt (by omega)
    unfold IE.TS.backoff
    simp only [h2]
    omega
  have EV := hid ev
  clear hP ev
  go_enter Try.func16, Try.ntmps16
  go_wp2_with fail
  refine still_tail 12 (by kernel_rfl) (by kernel_rfl) ?_
  simp only [List.take_succ_cons, List.take_zero, List.drop_succ_cons, List.drop_zero]
  repeat (first | (refine wpStill_step (fun K hK => ?_); go_simp; refine hK _ ?_; clear hK K; try go_ints))
  refine wpStill_nil ?_
  go_wp2_with fail
  rw [EV.out]
  go_end0
  exact ⟨rfl, ⟨s, v, at_setCell HP.out 4 _, hs⟩, ((Out.refl (fun k => k = P) w).setCell (p := ⟨P, 4, none⟩) rfl _).drew⟩

theorem rnew_no (hm : l < 1 ∨ m < l ∨ 4294967296 < m) : Calls Try.prog 9 #[.agg #[.int .u64 (l : Int), .int .u64 (m : Int)]] w fun e w' => e = .returned (.pointer none) ∧ Below w.heap.size w w' := by
  have c0 : (w.alloc (.cells #[.int .u64 (l : Int), .int .u64 (m : Int)] 24)).cell? ⟨w.heap.size, 0, none⟩ = some (.int .u64 (l : Int)) := cell_at (alloc_at _ _) 0
  have c1 : (w.alloc (.cells #[.int .u64 (l : Int), .int .u64 (m : Int)] 24)).cell? ⟨w.heap.size, 1, none⟩ = some (.int .u64 (m : Int)) := cell_at (alloc_at _ _) 1
  by_cases h1 : (l : Int) < 1
  · clear hm
    go_enter Try.func9, Try.ntmps9
    go_wp2_with fail
    go_ret
    exact ⟨rfl, (Below.refl _ _).alloc (Nat.le_refl _) _⟩
  · have h1' : decide ((l : Int) < 1) = false := decide_eq_false h1
    by_cases h2 : (m : Int) < (l : Int)
    · clear hm h1
      go_enter Try.func9, Try.ntmps9
      go_wp2_with fail
      go_ret
      exact ⟨rfl, (Below.refl _ _).alloc (Nat.le_refl _) _⟩
    · have h2' : decide (m < l) = false := decide_eq_false (by omega)
      have h3 : (4294967296 : Int) < (m : Int) := by omega
      clear hm h1 h2
      go_enter Try.func9, Try.ntmps9
      go_wp2_with fail
      go_ret
      exact ⟨rfl, (Below.refl _ _).alloc (Nat.le_refl _) _⟩

theorem rnew_at {z1 z2 x : Nat} (o : Obj) : (((w.alloc o).alloc (.cells (tcells l m z1 z2 x) 38)).drew.drew.drew).heap[w.heap.size + 1]? = some (.cells (tcells l m z1 z2 x) 38 (0, 0)) := by
  have := alloc_at (w.alloc o) (.cells (tcells l m z1 z2 x) 38)
  rw [World.size_alloc] at this
  exact this
theorem rnew_below {o o' : Obj} : Below w.heap.size w (((w.alloc o).alloc o').drew.drew.drew) := by
  have b1 := (Below.refl w.heap.size w).alloc (Nat.le_refl _) o
  exact ((b1.alloc b1.size o').drew.drew).drew
set_option maxHeartbeats 1000000 in
theorem rnew_any (h1 : 1 ≤ l) (h2 : l ≤ m) (h3 : m ≤ 4294967296) : Calls Try.prog 9 #[.agg #[.int .u64 (l : Int), .int .u64 (m : Int)]] w fun e w' => ∃ P, w.heap.size ≤ P ∧ e = .returned (.pointer (some ⟨P, 0, none⟩)) ∧ TAt w' P 38 l m (freshT l m) ∧ Below w.heap.size w w' := by
  have d1 : decide ((l : Int) < 1) = false := decide_eq_false (by omega)
  have d2 : decide ((m : Int) < (l : Int)) = false := decide_eq_false (by omega)
  have d3 : decide ((4294967296 : Int) < (m : Int)) = false := decide_eq_false (by omega)
  have d2' : decide (m < l) = false := decide_eq_false (by omega)
  have c0 : (w.alloc (.cells #[.int .u64 (l : Int), .int .u64 (m : Int)] 24)).cell? ⟨w.heap.size, 0, none⟩ = some (.int .u64 (l : Int)) := cell_at (alloc_at _ _) 0
  have c1 : (w.alloc (.cells #[.int .u64 (l : Int), .int .u64 (m : Int)] 24)).cell? ⟨w.heap.size, 1, none⟩ = some (.int .u64 (m : Int)) := cell_at (alloc_at _ _) 1
  go_enter Try.func9, Try.ntmps9
  go_wp2_with fail
  go_region_held3 (fun w' => w'.cell? ⟨w.heap.size, 0, none⟩ = some (.int .u64 (l : Int)) ∧ w'.cell? ⟨w.heap.size, 1, none⟩ = some (.int .u64 (m : Int))) (go_keep) (first | (go_at_call 25; refine (nan_any _).mono ?_; rintro e w' ⟨z, hz, rfl, rfl⟩))
  all_goals
    have ev : min (max (l : Int) 1000) (m : Int) = ((IE.clampT l m 1000 : Nat) : Int) := by unfold IE.clampT; omega
    rw [ev]
    go_wp2_with fail
    go_ret
    exact ⟨w.heap.size + 1, Nat.le_succ _, rfl, ⟨_, _, rnew_at _, by assumption, by assumption⟩, rnew_below⟩
end
end Go.Proofs.Ytfifecjnniahiaa

namespace Go.Proofs.Ytfifecjnniahiaa
open Go Go.RowKit

/-- A world in which all that stood in w is as it was. -/
structure Later (w : World) where
  w' : World
  h : Below w.heap.size w w'

instance (w : World) : Nonempty (Later w) := ⟨⟨w, Below.refl _ _⟩⟩

variable {P : Program}
theorem wp_region_later {id : Nat} {Q : Exit → Act → World → Prop} {a : Act} {w : World} {l : List Oper} (hm : P.follows .mixedOrders = true) (hB : Region.lexB .any l.toArray = true)
    (h : wpQuiet P l.toArray (fun w' => ∃ x : Later w, w' = x.w') (fun a' => ∀ w', (∃ x : Later w, w' = x.w') → Q .normal a' w') l a) : (Code.region id l.toArray true).wp P Q a w :=
  wp_region_quiet (C := fun w' => ∃ x : Later w, w' = x.w') hm hB ⟨⟨w.drew, (Below.refl _ _).drew⟩, rfl⟩ (by simpa using h)
theorem calls_later {f : FuncId} {args : Array Value} {w : World} {x : Later w} {v : Value} (h : Calls P f args x.w' fun e w' => e = .returned v ∧ Below x.w'.heap.size x.w' w') :
    Calls P f args x.w' fun e w'' => e = .returned v ∧ ∃ y : Later w, w'' = y.w' :=
  h.mono fun _ _ ⟨he, hb⟩ => ⟨he, ⟨⟨_, below_to x.h hb⟩, rfl⟩⟩
theorem later_block {w : World} {b : Nat} {o : Obj} (h : w.heap[b]? = some o) (x : Later w) : x.w'.heap[b]? = some o := (x.h.block b (lt_blk h)).trans h
theorem later_cell {w : World} {p : Addr} {v : Value} (c : w.cell? p = some v) (x : Later w) : x.w'.cell? p = some v := (x.h.cell (p := p) (World.block_lt_of_cell? w p c)).trans c

theorem keepB {w w' : World} {b : Nat} {o : Obj} (hb : Below w.heap.size w w') (h : w.heap[b]? = some o) : w'.heap[b]? = some o := (hb.block b (lt_blk h)).trans h

/-- A load of a whole row. -/
theorem quiet_load {C : World → Prop} {K : Act → Prop} {a : Act} {o : Oper} (ty : TypeId) (x : Operand) (ho : o.op = .load ty x) {p : Value} (hp : a.eval x = p) {v : Value}
    (h : ∀ w, C w → (Instr.loadAt ty p).run P w = .ok v w) (hk : K (a.put o.dst v)) : o.quiet P a C K := by
  refine ⟨v, fun w hw => ?_, hk⟩
  unfold Oper.quietAt execOp
  simp only [ho, hp, Sem.run_bind, Sem.run_pure, Result.andThen_ok, h w hw]
  exact ⟨rfl, rfl⟩

end Go.Proofs.Ytfifecjnniahiaa

namespace Go.Proofs.Ytfifecjnniahiaa
open Go Go.RowKit

structure Stp where
  o : Int
  n : Nat
/-- A slice of steps: nothing, or a row of cells. -/
def StepsAt (w : World) (a : Option Addr) (len : Nat) (s : Nat → Stp) : Prop :=
  len = 0 ∨ ∃ b off, a = some ⟨b, off, none⟩ ∧ b < w.heap.size ∧ ∀ k, k < len → w.cell? ⟨b, off + k * 2, none⟩ = some (.int .i64 (s k).o) ∧ w.cell? ⟨b, off + k * 2 + 1, none⟩ = some (.int .u64 ((s k).n : Int))

section
variable {w : World} {t : IE.TS}
theorem same_pair (hok : t.ok) {s v s2 v2 : Nat} (h1 : if t.has then s = t.s ∧ v = t.v else IE.nanB s = true ∧ IE.nanB v = true) (h2 : if t.has then s2 = t.s ∧ v2 = t.v else IE.nanB s2 = true ∧ IE.nanB v2 = true) :
    (∀ w, Calls Try.prog 12 #[.float .f64 s, .float .f64 s2] w fun e w' => e = .returned (.bool true) ∧ Below w.heap.size w w') ∧ ∀ w, Calls Try.prog 12 #[.float .f64 v, .float .f64 v2] w fun e w' => e = .returned (.bool true) ∧ Below w.heap.size w w' := by
  have key : ∀ {x y : Nat}, (∀ w, Calls Try.prog 12 #[.float .f64 x, .float .f64 y] w fun e w' => e = .returned (.bool true) ∧ w = w') → ∀ w, Calls Try.prog 12 #[.float .f64 x, .float .f64 y] w fun e w' => e = .returned (.bool true) ∧ Below w.heap.size w w' := fun h w => (h w).mono fun e w' ⟨a, b⟩ => ⟨a, by rw [← b]; exact Below.refl _ _⟩
  cases hh : t.has
  · rw [hh] at h1 h2
    exact ⟨key fun w => same_nan _ _ w h1.1 h2.1, key fun w => same_nan _ _ w h1.2 h2.2⟩
  · rw [hh] at h1 h2
    obtain ⟨rfl, rfl⟩ : s = t.s ∧ v = t.v := h1
    obtain ⟨rfl, rfl⟩ : s2 = t.s ∧ v2 = t.v := h2
    exact ⟨key fun w => same_fin _ w (Nat.lt_of_le_of_lt hok.s IE.M32_inf), key fun w => same_fin _ w (Nat.lt_of_le_of_lt hok.v IE.M32_inf)⟩
theorem tat_keep {w w' : World} {P l m : Nat} {T : TypeId} (h : TAt w P T l m t) (hb : w'.heap[P]? = w.heap[P]?) : TAt w' P T l m t := by
  obtain ⟨s, v, hP, hs⟩ := h
  exact ⟨s, v, hb.trans hP, hs⟩
theorem tat_lt {w : World} {P l m : Nat} {T : TypeId} (h : TAt w P T l m t) : P < w.heap.size := by
  obtain ⟨s, v, hP, hs⟩ := h
  exact lt_blk hP
end

/-- More than the statement plays. -/
theorem plays_far (c : Value) (a : Option Addr) (len cap : Nat) (W : World) (hlen : 300 < len) (hmax : len ≤ 9223372036854775807) (l m : Nat) (hc : c = .agg #[.int .u64 (l : Int), .int .u64 (m : Int)]) :
    Calls Try.prog 3 #[c, .slice a len cap] W fun e w' => e = .returned (.bool true) ∧ Below W.heap.size W w' := by
  have hl : (300 : Int) < (len : Int) := by omega
  subst hc
  go_enter Try.func3, Try.ntmps3
  go_wp2_with fail
  refine (works_any _).mono ?_
  rintro e w3 ⟨rfl, hb'⟩
  have b0 := (Below.refl W.heap.size W).alloc (Nat.le_refl _) (.cells #[.int .u64 (l : Int), .int .u64 (m : Int)] 24)
  have b1 := b0.trans (hb'.mono b0.size)
  clear hb' b0
  go_wp2_with fail
  go_ret
  exact ⟨rfl, b1⟩

set_option maxHeartbeats 1000000 in
theorem plays_no (l m : Nat) (a : Option Addr) (len cap : Nat) (W : World) (hlen : len ≤ 300) (hm : l < 1 ∨ m < l ∨ 4294967296 < m) :
    Calls Try.prog 3 #[.agg #[.int .u64 (l : Int), .int .u64 (m : Int)], .slice a len cap] W fun e w' => e = .returned (.bool true) ∧ Below W.heap.size W w' := by
  have hl : (len : Int) ≤ 300 := by omega
  have HM := hid hm
  have bA := (Below.refl W.heap.size W).alloc (Nat.le_refl _) (.cells #[.int .u64 (l : Int), .int .u64 (m : Int)] 24)
  have c0 : (W.alloc (.cells #[.int .u64 (l : Int), .int .u64 (m : Int)] 24)).cell? ⟨W.heap.size, 0, none⟩ = some (.int .u64 (l : Int)) := cell_at (alloc_at _ _) 0
  have c1 : (W.alloc (.cells #[.int .u64 (l : Int), .int .u64 (m : Int)] 24)).cell? ⟨W.heap.size, 1, none⟩ = some (.int .u64 (m : Int)) := cell_at (alloc_at _ _) 1
  have BA := hid bA
  clear hm bA
  go_enter Try.func3, Try.ntmps3
  go_wp2_with fail
  refine (new_no HM.out).mono ?_
  rintro e w1 ⟨rfl, b1⟩
  have d0 := (b1.cell (p := ⟨W.heap.size, 0, none⟩) (World.block_lt_of_cell? _ _ c0)).trans c0
  have d1 := (b1.cell (p := ⟨W.heap.size, 1, none⟩) (World.block_lt_of_cell? _ _ c1)).trans c1
  have B1 := hid (BA.out.trans (b1.mono BA.out.size))
  clear b1 c0 c1
  go_wp2_with fail
  refine (rnew_no HM.out).mono ?_
  rintro e w2 ⟨rfl, b2⟩
  have B2 := hid (B1.out.trans (b2.mono B1.out.size))
  clear b2 d0 d1
  go_wp2_with fail
  refine (works_any _).mono ?_
  rintro e w3 ⟨rfl, b3⟩
  have B3 := hid (B2.out.trans (b3.mono B2.out.size))
  clear b3
  go_wp2_with fail
  go_ret
  exact ⟨rfl, B3.out⟩

set_option maxRecDepth 100000 in
set_option maxHeartbeats 2000000 in
theorem plays_any (l m : Nat) (a : Option Addr) (len cap : Nat) (s : Nat → Stp) (W : World) (hlen : len ≤ 300) (h1 : 1 ≤ l) (h2 : l ≤ m) (h3 : m ≤ 4294967296) (hs : StepsAt W a len s) :
    Calls Try.prog 3 #[.agg #[.int .u64 (l : Int), .int .u64 (m : Int)], .slice a len cap] W fun e w' => e = .returned (.bool true) ∧ Below W.heap.size W w' := by
  have hl : (len : Int) ≤ 300 := by omega
  have bA := (Below.refl W.heap.size W).alloc (Nat.le_refl _) (.cells #[.int .u64 (l : Int), .int .u64 (m : Int)] 24)
  have c0 : (W.alloc (.cells #[.int .u64 (l : Int), .int .u64 (m : Int)] 24)).cell? ⟨W.heap.size, 0, none⟩ = some (.int .u64 (l : Int)) := cell_at (alloc_at _ _) 0
  have c1 : (W.alloc (.cells #[.int .u64 (l : Int), .int .u64 (m : Int)] 24)).cell? ⟨W.heap.size, 1, none⟩ = some (.int .u64 (m : Int)) := cell_at (alloc_at _ _) 1
  have BA := hid bA
  have hf0 : (freshT l m).ok := ⟨Nat.zero_le _, Nat.zero_le _⟩
  have hf1 : l ≤ (freshT l m).val ∧ (freshT l m).val ≤ m := by
    show l ≤ IE.clampT l m 1000 ∧ IE.clampT l m 1000 ≤ m
    unfold IE.clampT; omega
  have HS := hid hs
  clear bA hs
  go_enter Try.func3, Try.ntmps3
  go_wp2_with fail
  refine (new_any h1 h2 h3).mono ?_
  rintro e w1 ⟨P, hP, rfl, hT, b1⟩
  have hPW : W.heap.size ≤ P := Nat.le_trans BA.out.size hP
  have d0 := (b1.cell (p := ⟨W.heap.size, 0, none⟩) (World.block_lt_of_cell? _ _ c0)).trans c0
  have d1 := (b1.cell (p := ⟨W.heap.size, 1, none⟩) (World.block_lt_of_cell? _ _ c1)).trans c1
  have B1 := hid (BA.out.trans (b1.mono BA.out.size))
  have HT := hid hT
  clear b1 c0 c1 hT hP
  go_wp2_with fail
  refine (rnew_any h1 h2 h3).mono ?_
  rintro e w2 ⟨R, hR, rfl, hQ, b2⟩
  have hRW : W.heap.size ≤ R := Nat.le_trans B1.out.size hR
  have hPR : P ≠ R := by have := tat_lt HT.out; omega
  have hT2 := tat_keep HT.out (b2.block P (tat_lt HT.out))
  have B2 := hid (B1.out.trans (b2.mono B1.out.size))
  clear b2 d0 d1 hR HT
  go_wp2_with fail
  go_loopw [8] (fun i wr => ∃ (k : Nat) (st : IE.TS), k ≤ len ∧ i = .int .i64 k ∧ st.ok ∧ (l ≤ st.val ∧ st.val ≤ m) ∧ TAt wr P 54 l m st ∧ TAt wr R 38 l m st ∧ Below W.heap.size W wr)
    (fun i _ => len + 1 - (intOf i).toNat)
  case atStart => exact ⟨0, _, Nat.zero_le _, rfl, hf0, hf1, hT2, hQ, B2.out⟩
  case round =>
    obtain ⟨k, st, hk, rfl, hok, hv, hr, hq, hb⟩ := hrel
    obtain ⟨s1, v1, hP1, hs1⟩ := hr
    obtain ⟨s2, v2, hP2, hs2⟩ := hq
    obtain ⟨S1, S2⟩ := same_pair hok hs1 hs2
    have HP1 := hid hP1
    have HR0 := hid (show TAt wr P 54 l m st from ⟨s1, v1, hP1, hs1⟩)
    have HQ0 := hid (show TAt wr R 38 l m st from ⟨s2, v2, hP2, hs2⟩)
    have HSA := hid S1
    have HSB := hid S2
    have hkl : (k : Int) ≤ (len : Int) := by omega
    have HB := hid hb
    clear hP1 hs1 hs2 S1 S2 hb hf0 hf1 hT2 hQ B1 B2
    go_wp2_with fail
    refine (smooth_any HP1.out).mono ?_
    rintro e wA ⟨rfl, hd⟩
    obtain ⟨nd, rfl⟩ := hd
    have HRA : Hid (TAt (wr.drewN nd) P 54 l m st) := hid HR0.out
    have HQA : Hid (TAt (wr.drewN nd) R 38 l m st) := hid HQ0.out
    have cq2 : (wr.drewN nd).cell? ⟨R, 2, none⟩ = some (.float .f64 s2) := cell_at hP2 2
    have cq3 : (wr.drewN nd).cell? ⟨R, 3, none⟩ = some (.float .f64 v2) := cell_at hP2 3
    have cq4 : (wr.drewN nd).cell? ⟨R, 4, none⟩ = some (.int .u64 (st.val : Int)) := cell_at hP2 4
    have hbA : Below W.heap.size W (wr.drewN nd) := ⟨HB.out.os, HB.out.tape, HB.out.output, HB.out.size, HB.out.block⟩
    have HBA := hid hbA
    clear hbA hP2 HP1 HR0 HQ0 HB
    generalize wr.drewN nd = wA at *
    have HV : Hid (∀ x : Later wA, Calls Try.prog 11 #[.pointer (some ⟨P, 0, none⟩)] x.w' fun e w' => e = .returned (.int .u64 (st.val : Int)) ∧ Below x.w'.heap.size x.w' w') :=
      hid fun x => (value_any (tat_keep HRA.out (x.h.block P (tat_lt HRA.out)))).mono fun e w' ⟨a, b⟩ => ⟨a, by rw [← b]; exact Below.refl _ _⟩
    have j2 := later_cell cq2
    have j3 := later_cell cq3
    have j4 := later_cell cq4
    clear cq2 cq3 cq4
    go_wp2_with fail
    refine wp_region_later (by kernel_rfl) (by kernel_rfl) ?_
    repeat ((go_big_quiet_step ((first | (go_at_call 11; with_reducible exact calls_later (HV.out _)) | (go_at_call 12; first | with_reducible exact calls_later (HSA.out _) | with_reducible exact calls_later (HSB.out _))))))
    refine wpQuiet_nil ?_
    intro wL hwL
    obtain ⟨⟨w8, hL⟩, e8⟩ := hwL
    change wL = w8 at e8
    subst e8
    have HRL := hid (tat_keep HRA.out (hL.block P (tat_lt HRA.out)))
    have HQL := hid (tat_keep HQA.out (hL.block R (tat_lt HQA.out)))
    have HBL := hid (HBA.out.trans (hL.mono HBA.out.size))
    clear hL HRA HQA HBA HV HSA HSB j2 j3 j4
    by_cases hlt : k < len
    · have hne : ((k : Int) == (len : Int)) = false := beq_eq_false_iff_ne.2 (by omega)
      obtain h0 | ⟨b, off, rfl, hbs, hx⟩ := HS.out
      · omega
      obtain ⟨x1, x2⟩ := hx k hlt
      have y1 := (HBL.out.cell (p := ⟨b, off + k * 2, none⟩) hbs).trans x1
      have y2 := (HBL.out.cell (p := ⟨b, off + k * 2 + 1, none⟩) hbs).trans x2
      have X2 := hid x2
      clear x1 x2 hx
      generalize s k = tt at *
      obtain ⟨tdo, tn⟩ := tt
      simp only at y1 y2 X2
      go_wp2_with fail
      · refine (sample_any (n := tn) hok HRL.out).mono ?_
        rintro e wM ⟨rfl, hM, oM⟩
        have HM := hid hM
        have HQM := hid (tat_keep HQL.out (oM.block R (tat_lt HQL.out) (fun e => hPR e.symm)))
        have HBM := hid (HBL.out.trans (oM.below (fun k e => by rw [e]; exact hPW) HBL.out.size))
        have z2 := (HBM.out.cell (p := ⟨b, off + k * 2 + 1, none⟩) hbs).trans X2.out
        clear y1 y2 hM oM
        go_wp2_with fail
        refine (rsample_any (n := tn) hok HQM.out).mono ?_
        rintro e wN ⟨rfl, hN, oN⟩
        have HN := hid hN
        have HMN := hid (tat_keep HM.out (oN.block P (tat_lt HM.out) hPR))
        have HBN := hid (HBM.out.trans (oN.below (fun k e => by rw [e]; exact hRW) HBM.out.size))
        clear z2 hN oN
        go_wp2_with fail
        exact ⟨⟨k + 1, _, by omega, by go_num, IE.TS.sample_ok hok _ _ _, IE.sample_in h2 hv tn, HMN.out, HN.out, HBN.out⟩, by simp [intOf]; omega⟩
      · refine (backoff_any ⟨hv.1, by omega⟩ HRL.out).mono ?_
        rintro e wM ⟨rfl, hM, oM⟩
        have HM := hid hM
        have HQM := hid (tat_keep HQL.out (oM.block R (tat_lt HQL.out) (fun e => hPR e.symm)))
        have HBM := hid (HBL.out.trans (oM.below (fun k e => by rw [e]; exact hPW) HBL.out.size))
        clear y1 y2 hM oM
        go_wp2_with fail
        refine (rbackoff_any (by omega) HQM.out).mono ?_
        rintro e wN ⟨rfl, hN, oN⟩
        have HN := hid hN
        have HMN := hid (tat_keep HM.out (oN.block P (tat_lt HM.out) hPR))
        have HBN := hid (HBM.out.trans (oN.below (fun k e => by rw [e]; exact hRW) HBM.out.size))
        clear hN oN
        go_wp2_with fail
        exact ⟨⟨k + 1, st.backoff m, by omega, by go_num, ⟨hok.s, hok.v⟩, ⟨(IE.backoff_in hv h3).1, (IE.backoff_in hv h3).2.1⟩, HMN.out, HN.out, HBN.out⟩, by simp [intOf]; omega⟩
    · have hke : ((k : Int) == (len : Int)) = true := beq_iff_eq.2 (by omega)
      go_wp2_with fail
      refine (works_any _).mono ?_
      rintro e w3 ⟨rfl, b3⟩
      have HB3 := hid (HBL.out.trans (b3.mono HBL.out.size))
      clear b3
      go_wp2_with fail
      go_ret
      exact ⟨rfl, HB3.out⟩
end Go.Proofs.Ytfifecjnniahiaa

namespace Go.Proofs.Ytfifecjnniahiaa
open Go.RowKit Go.ChangeShapes Go.WideShapes Go.Deep

instance : Inhabited Stp := ⟨⟨0, 0⟩⟩

section
variable {H : Type} {enc : TypeId × Value → H} {P : Program} {w : World} {base : Nat} {spare : Nat → Bool} {held : Bool}
/-- A struct that came in by value, each field of one cell: its fields. -/
theorem struct_fields {t : TypeId} {fs : Array Field} {cs : Array Value} {d : DataW H} {p : List MemPlace} (he : P.underlying t = some (.struct fs)) (hone : oneCellFields P fs = true)
    (h : DataW.Trod enc P w base spare held t (.agg cs) d p) : ∃ n, ∀ (j : Nat) (f : Field), fs[j]? = some f → ∀ hj : j < cs.size, ∃ y : DataW H × List MemPlace, DataW.trod enc P w base spare held n f.type [cs[j]] = some y := by
  obtain ⟨m, hm⟩ := h
  obtain ⟨ys, n', hn', hy, hlen, hyl, hf⟩ := DataW.trod_struct he hm
  refine ⟨n', fun j f hj hjl => ?_⟩
  obtain ⟨ho, hk⟩ := hone_of hone j f hj
  have h1 := hf j f hj
  rw [ho, hk] at h1
  have hcl : (Value.agg cs).cells.toList = cs.toList := rfl
  rw [hcl] at h1
  have hone' : (cs.toList.drop j).take 1 = [cs[j]] := by
    rw [List.drop_eq_getElem_cons (by simpa using hjl)]
    simp
  rw [hone'] at h1
  have hjf : j < fs.size := (Array.getElem?_eq_some_iff.1 hj).1
  rw [List.getElem?_eq_getElem (by omega)] at h1
  exact ⟨_, h1⟩
end
section
variable {H : Type} {enc : TypeId × Value → H} {w : World} {base : Nat} {spare : Nat → Bool} {held : Bool}
theorem nat_of {n : Int} {hi : Int} (h : 0 ≤ n ∧ n ≤ hi) : ∃ m : Nat, n = (m : Int) ∧ (m : Int) ≤ hi := by
  obtain ⟨m, rfl⟩ := Int.eq_ofNat_of_zero_le h.1
  exact ⟨m, rfl, h.2⟩

theorem conf_open {cs : Array Value} {d : DataW H} {p : List MemPlace} (hsz : cs.size = 2) (h : DataW.Trod enc Try.prog w base spare held 24 (.agg cs) d p) : ∃ l m : Nat, cs = #[.int .u64 (l : Int), .int .u64 (m : Int)] := by
  obtain ⟨n, hf⟩ := struct_fields Try.underlying24 (by kernel_rfl) h
  obtain ⟨l⟩ := cs
  match l, hsz with
  | [v0, v1], _ =>
    obtain ⟨y0, t0⟩ := hf 0 _ rfl (by simp)
    obtain ⟨y1, t1⟩ := hf 1 _ rfl (by simp)
    obtain ⟨n0, e0, _, f0⟩ := DataW.trod_int Try.underlying22 t0
    obtain ⟨n1, e1, _, f1⟩ := DataW.trod_int Try.underlying22 t1
    simp only [List.cons.injEq, and_true, List.getElem_toArray, List.getElem_cons_zero, List.getElem_cons_succ] at e0 e1
    subst e0 e1
    obtain ⟨m0, rfl, g0⟩ := nat_of (bounds_u64 f0)
    obtain ⟨m1, rfl, g1⟩ := nat_of (bounds_u64 f1)
    exact ⟨m0, m1, rfl⟩
end
section
variable {H : Type} {enc : TypeId × Value → H} {w : World} {base : Nat} {held : Bool}
theorem steps_open {fuel : Nat} {a : Option Addr} {len cap : Nat} {x : DataW H × List MemPlace} (h : DataW.trod enc Try.prog w base (fun _ => true) held fuel 25 [.slice a len cap] = some x) :
    len ≤ maxLen ∧ ∃ s, StepsAt w a len s := by
  obtain ⟨hm, h0 | ⟨b, off, rfl, hb, hc⟩⟩ := slice_fields_at Try.underlying25 Try.underlying41 (by kernel_rfl) (by kernel_rfl) (by decide) h
  · exact ⟨hm, fun _ => ⟨0, 0⟩, .inl h0⟩
  · obtain ⟨s, hs⟩ := choose_lt (α := Stp) (n := len) (p := fun k t => w.cell? ⟨b, off + k * 2, none⟩ = some (.int .i64 t.o) ∧ w.cell? ⟨b, off + k * 2 + 1, none⟩ = some (.int .u64 (t.n : Int))) (fun k hk => by
      obtain ⟨n, hf⟩ := hc k hk
      obtain ⟨v0, y0, c0, t0⟩ := hf 0 _ rfl
      obtain ⟨v1, y1, c1, t1⟩ := hf 1 _ rfl
      obtain ⟨n0, e0, _, _⟩ := DataW.trod_int Try.underlying3 t0
      obtain ⟨n1, e1, _, f1⟩ := DataW.trod_int Try.underlying22 t1
      simp only [List.cons.injEq, and_true] at e0 e1
      subst e0 e1
      obtain ⟨m1, rfl⟩ := Int.eq_ofNat_of_zero_le (bounds_u64 f1).1
      exact ⟨⟨n0, m1⟩, c0, c1⟩)
    exact ⟨hm, s, .inr ⟨b, off, rfl, hb, hs⟩⟩
end
def confz : Value := .agg #[.int .u64 0, .int .u64 0]

namespace timerPlays
open Go.ChangeShapes Go.WideShapes Go.ChangeAt Go.RowKit
open Go.ChangeMaps (open_string shut_string)
theorem own : ownKnob Try.prog.godebug = none := by kernel_rfl
theorem laidOut : laidOutB Try.prog = true := by kernel_rfl
set_option maxRecDepth 100000 in
theorem lifted (os : Os) (started : os.Started) (H : Type) (enc : TypeId × Value → H) :
    ReturnsInHanded {} Try.checked os 3 .any (Rows.timerPlaysSpec.pre6 enc Try.prog Try.f3 Rows.timerPlaysRow.domain false) (Rows.timerPlaysSpec.post enc Try.prog Try.f3 false true false false) := by
  refine returnsInHanded_of_change (C := Try.checked) own started (by kernel_rfl) Try.func3
    (ChangeSpec.witness6 (enc := enc) (C := Try.checked) false ⟨#[], #[confz, .slice none 0 0], []⟩ 8 (by kernel_rfl) (by kernel_rfl) (by kernel_rfl) (by kernel_rfl)) ?_
  intro W base args ds gs before hval0 hW hcnd _
  have hval : ∀ (j : Nat) t v, Try.f3.params[j]? = some t → args[j]? = some v → Value.okWide Try.prog W .any base t v := hval0
  have hW' := hW
  obtain ⟨p, q, hA0, hV, rfl, hfz, hnd⟩ := hW
  have hA : DataW.TrodAll enc Try.prog W 0 (fun _ => true) true Try.f3.params.toList args.toList ds p := hA0
  rw [Try.params3] at hA hval
  obtain ⟨v0, vs0, d0, ds0, p0, q0, hargs, rfl, rfl, h0, r0⟩ := trodAll_cons hA
  obtain ⟨v1, vs1, d1, ds1, p1, q1, rfl, rfl, rfl, h1, r1⟩ := trodAll_cons r0
  obtain ⟨rfl, rfl, rfl⟩ := trodAll_nil r1
  obtain rfl : args = #[v0, v1] := by cases args; simp_all
  obtain ⟨rfl, rfl⟩ := trodVars_none hV
  have k0 := h0
  have lt0 : ∀ x ∈ p0, x.block < W.heap.size := by obtain ⟨m, hm⟩ := k0; exact DataW.trod_lt m _ _ _ hm
  obtain ⟨a0, rfl, sz0⟩ := okWide_struct Try.underlying24 (hval 0 24 v0 rfl rfl)
  have k1 := h1
  have lt1 : ∀ x ∈ p1, x.block < W.heap.size := by obtain ⟨m, hm⟩ := k1; exact DataW.trod_lt m _ _ _ hm
  obtain ⟨a1, len1, cap1, rfl⟩ := okWide_slice Try.underlying25 (hval 1 25 v1 rfl rfl)
  obtain ⟨fuel1, hf1⟩ := h1
  clear hA0 hval0
  obtain ⟨l, m, rfl⟩ := conf_open (sz0.trans (by kernel_rfl)) h0
  obtain ⟨hmax, s, hs⟩ := steps_open hf1
  unfold maxLen at hmax
  refine Calls.mono (R := fun e w' => e = .returned (.bool true) ∧ Below W.heap.size W w') ?_ fun e W' ⟨he, bel⟩ => ?_
  · by_cases hl : len1 ≤ 300
    · by_cases hg : 1 ≤ l ∧ l ≤ m ∧ m ≤ 4294967296
      · exact plays_any l m a1 len1 cap1 s W hl hg.1 hg.2.1 hg.2.2 hs
      · exact plays_no l m a1 len1 cap1 W hl (by omega)
    · exact plays_far _ a1 len1 cap1 W (by omega) (by omega) l m rfl
  subst he
  exact ⟨_, rfl, _, _, _, [], _, [], hW', trodAll_mk1 (shut_bool Try.underlying4 _), (trodAll_cons_mk (Below.trod laidOut (by kernel_rfl) (of_decide_eq_true (by kernel_rfl)) k0 bel lt0) (trodAll_cons_mk (Below.trod laidOut (by kernel_rfl) (of_decide_eq_true (by kernel_rfl)) k1 bel lt1) trodAll_mk0)), rfl, bel.frame _, fun h => by cases h⟩

theorem over : Rows.timerPlaysRow.holds Try.pinned (OpenSpec.ofChange Rows.timerPlaysSpec) :=
  OpenClaim.holds_of_wide 3 Try.f3 rfl rfl rfl rfl rfl rfl rfl ⟨rfl, rfl, rfl, rfl, rfl⟩ rfl rfl rfl rfl rfl (by kernel_rfl) Try.func3 (by kernel_rfl)
    (of_decide_eq_true (by kernel_rfl)) (by unfold Func.isWrapper; first | (rw [if_pos (by decide +kernel)]; kernel_rfl) | (rw [if_neg (by decide +kernel)]; exact ⟨rfl, rfl⟩))
    (fun os started H enc _ => lifted os started H enc)
end timerPlays
/-- The given statement. -/
theorem timerPlays_proved : Rows.TimerPlaysSaid := timerPlays.over
#print axioms timerPlays_proved

end Go.Proofs.Ytfifecjnniahiaa
