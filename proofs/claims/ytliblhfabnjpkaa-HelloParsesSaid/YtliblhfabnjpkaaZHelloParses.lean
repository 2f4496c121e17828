/- The law HelloParses: for every input it returns true and leaves its arguments as they were. -/
import Derived.Test.YtliblhfabnjpkaaM01
import Derived.ProofKit
import Derived.OpenShut
import Derived.ShutString
import Derived.ChangeOld
import Derived.Deep.Slices
import Derived.Deep.Fields
import Derived.ChangeSame
import Derived.Lib.MinMax
import Derived.Test.YtliblhfabnjpkaaM08
import Derived.Test.YtliblhfabnjpkaaM15
import Derived.Test.YtliblhfabnjpkaaM16
namespace Go.Proofs.Ytliblhfabnjpkaa
open Go.RowKit Go.ChangeShapes Go.WideShapes Go.Deep

section
variable {H : Type} {enc : TypeId × Value → H} {P : Program} {w : World} {base : Nat} {spare : Nat → Bool} {held : Bool}
/-- The kit's own page on structs has this theorem for copying: a slice of structs, each field of one cell. -/
theorem open_slice_fields {t e : TypeId} {fs : Array Field} {fuel : Nat} {cs : List Value} {x : DataW H × List MemPlace} (ht : P.underlying t = some (.slice e)) (he : P.underlying e = some (.struct fs))
    (hone : oneCellFields P fs = true) (hC : P.cellsOf e = fs.size) (h : DataW.trod enc P w base spare held fuel t cs = some x) :
    (cs = [.slice none 0 0] ∧ x = (.nil, [])) ∨
    ∃ (a : Addr) (len cap m : Nat) (D : Nat → DataW H) (Pl : Nat → List MemPlace), cs = [.slice (some a) len cap] ∧ base ≤ a.block ∧ len ≤ cap ∧ cap ≤ maxLen ∧ m = (if spare a.block then cap else len) ∧
      x = (.slice ((List.range len).map D) ((List.range (m - len)).map fun j => D (len + j)), MemPlace.row a (m * fs.size) ++ (List.range m).flatMap Pl) ∧
      ∀ i, i < m → ∃ (ys : List (DataW H × List MemPlace)) (n : Nat), D i = .agg (ys.map (·.1)) ∧ Pl i = ys.flatMap (·.2) ∧ ys.length = fs.size ∧
        ∀ (j : Nat) (f : Field), fs[j]? = some f → ∃ (v : Value) (y : DataW H × List MemPlace), w.cell? (a.add (i * fs.size + j)) = some v ∧ ys[j]? = some y ∧ DataW.trod enc P w base spare held n f.type [v] = some y := by
  rcases open_slice ht h with h0 | ⟨a, len, cap, m, n, D, Pl, hcs, hb, hl, hm, hmm, hx, hi⟩
  · exact .inl h0
  · refine .inr ⟨a, len, cap, m, D, Pl, hcs, hb, hl, hm, hmm, by rw [hC] at hx; exact hx, fun i him => ?_⟩
    obtain ⟨cs', hc, ht'⟩ := hi i him
    rw [hC] at hc
    obtain ⟨ys, n', hn', hy, hlen, hyl, hf⟩ := DataW.trod_struct he ht'
    obtain ⟨_, hcl, hat⟩ := World.cells?_some hc
    simp only [Prod.mk.injEq] at hy
    refine ⟨ys, n', hy.1, hy.2, hyl, fun j f hj => ?_⟩
    obtain ⟨ho, hk⟩ := hone_of hone j f hj
    have hjl : j < fs.size := (Array.getElem?_eq_some_iff.1 hj).1
    have hcell := hat j hjl
    have hv : cs'[j]? = some (cs'[j]'(by omega)) := List.getElem?_eq_getElem (by omega)
    have h1 := hf j f hj
    rw [ho, hk] at h1
    have hone' : (cs'.drop j).take 1 = [cs'[j]'(by omega)] := by
      rw [List.drop_eq_getElem_cons (by omega)]
      rfl
    rw [hone'] at h1
    have hys : ys[j]? = some (ys[j]'(by omega)) := List.getElem?_eq_getElem (by omega)
    refine ⟨_, _, ?_, hys, h1.trans hys⟩
    rw [← Go.Deep.add_add, hcell, hv]

/-- A slice of structs that came in: its length, and the cells of its elements at a plain address. -/
theorem slice_fields_at {t e : TypeId} {fs : Array Field} {fuel : Nat} {a : Option Addr} {len cap : Nat} {x : DataW H × List MemPlace} (ht : P.underlying t = some (.slice e)) (he : P.underlying e = some (.struct fs))
    (hone : oneCellFields P fs = true) (hC : P.cellsOf e = fs.size) (hpos : 0 < fs.size) (h : DataW.trod enc P w base (fun _ => true) held fuel t [.slice a len cap] = some x) :
    len ≤ maxLen ∧ (len = 0 ∨ ∃ b off, a = some ⟨b, off, none⟩ ∧ b < w.heap.size ∧ ∀ i, i < len → ∃ n, ∀ (j : Nat) (f : Field), fs[j]? = some f →
      ∃ (v : Value) (y : DataW H × List MemPlace), w.cell? ⟨b, off + i * fs.size + j, none⟩ = some v ∧ DataW.trod enc P w base (fun _ => true) held n f.type [v] = some y) := by
  rcases open_slice_fields ht he hone hC h with ⟨hcs, _⟩ | ⟨a', l, c, m, D, Pl, hcs, _, hl, hm, hmm, _, hi⟩
  · simp only [List.cons.injEq, Value.slice.injEq, and_true] at hcs
    obtain ⟨rfl, rfl, rfl⟩ := hcs
    exact ⟨Nat.zero_le _, .inl rfl⟩
  · simp only [List.cons.injEq, Value.slice.injEq, and_true] at hcs
    obtain ⟨rfl, rfl, rfl⟩ := hcs
    refine ⟨by omega, ?_⟩
    by_cases h0 : len = 0
    · exact .inl h0
    · right
      have hmc : m = cap := by simpa using hmm
      obtain ⟨ys, n, _, _, _, hf⟩ := hi 0 (by omega)
      obtain ⟨v, y, hc, _, _⟩ := hf 0 fs[0] (by simp [hpos])
      obtain ⟨b, off, spot⟩ := a'
      have hspot : spot = none := by simpa [Addr.add] using World.cell?_spot hc
      subst hspot
      refine ⟨b, off, rfl, by simpa [add_plain] using World.block_lt_of_cell? w _ hc, fun i hil => ?_⟩
      obtain ⟨ys, n, _, _, _, hf⟩ := hi i (by omega)
      refine ⟨n, fun j f hj => ?_⟩
      obtain ⟨v, y, hc, _, ht'⟩ := hf j f hj
      rw [add_plain, ← Nat.add_assoc] at hc
      exact ⟨v, y, hc, ht'⟩
end

end Go.Proofs.Ytliblhfabnjpkaa

namespace Go.Proofs.Ytliblhfabnjpkaa
open Go Go.RowKit Go.Deep
namespace HE
theorem extN_others : ∀ (n : Nat) (h h' : Hel) (l : List Nat) (s : BS), extN n h l s = .ok h' → h'.others.length ≤ h.others.length + n
  | 0, h, h', l, s, e => by
    unfold extN at e
    split at e
    · injection e with e; subst e; exact Nat.le_refl _
    · cases e
  | n + 1, h, h', l, s, e => by
    unfold extN at e
    split at e
    · injection e with e; subst e; omega
    · cases hx : ext1 s with
      | none => rw [hx] at e; cases e
      | some x =>
        obtain ⟨k, d, r⟩ := x
        rw [hx] at e
        simp only [] at e
        split at e
        · cases e
        · cases hp : put h k d with
          | error c => rw [hp] at e; cases e
          | ok h2 =>
            rw [hp] at e
            have h1 := extN_others n h2 h' (l ++ [k]) r e
            have h2 := put_others hp
            omega
theorem parse_others {b : BS} {h : Hel} (e : parse b = .ok h) : h.others.length ≤ 64 := by
  unfold parse at e
  cases hst : start b with
  | none => rw [hst] at e; cases e
  | some x =>
    obtain ⟨rnd, ses, r⟩ := x
    rw [hst] at e
    simp only [] at e
    split at e
    · cases e
    · unfold body2 at e
      cases hn : numbers 2 r with
      | none => rw [hn] at e; cases e
      | some y =>
        obtain ⟨su, r4⟩ := y
        rw [hn] at e
        simp only [] at e
        cases ht : text 1 r4 with
        | none => rw [ht] at e; cases e
        | some z =>
          obtain ⟨c, r5⟩ := z
          rw [ht] at e
          simp only [] at e
          split at e
          · split at e
            · injection e with e; subst e; exact Nat.zero_le _
            · cases hx : text 2 r5 with
              | none => rw [hx] at e; cases e
              | some q =>
                obtain ⟨x, r6⟩ := q
                rw [hx] at e
                simp only [] at e
                split at e
                · have := extN_others 64 _ _ _ _ e
                  simpa [helZ] using this
                · cases e
          · cases e
end HE
attribute [local go_sem ↓] exl_Hello exs_Hello
      attribute [local go_sem] ldr_Hello str_Hello
set_option maxRecDepth 100000 in
set_option maxHeartbeats 8000000 in
theorem lparses_any (b : List UInt8) (W : World) : Calls Try.prog 4 #[.string ⟨b.toArray⟩] W fun e w' => e = .returned (.bool true) ∧ Below W.heap.size W w' := by
  have hA := hid fun w : World => alive_any (W := w)
  have hbs := text_size b
  by_cases hl : 2048 < b.length
  · have d1 : decide ((2048 : Int) < (b.length : Int)) = true := decide_eq_true (by omega)
    obtain ⟨S, hS⟩ : ∃ S, (⟨b.toArray⟩ : ByteArray) = S := ⟨_, rfl⟩
    rw [hS] at hbs ⊢
    clear hS hl
    go_enter Try.func4, Try.ntmps4
    go_wp2_with fail
    refine (hA.out _).mono ?_
    rintro e w' ⟨rfl, hb⟩
    have HB := hid hb
    clear hb
    go_wp2_with fail
    go_ret
    exact ⟨rfl, HB.out⟩
  · have d1 : decide ((2048 : Int) < (b.length : Int)) = false := decide_eq_false (by omega)
    have P1 := hid fun w : World => parse_any (w := w) b (by omega)
    have P2 := hid fun w : World => rparse_any (w := w) b (by omega)
    have hgd : ∀ h, HE.parse b = .ok h → HE.Good h 2048 ∧ h.others.length ≤ 64 := fun h e => ⟨by
      have := HE.parse_good e
      have hm : ∀ {n : Nat}, n ≤ b.length → n ≤ 2048 := fun h => by omega
      exact ⟨⟨this.s.1, hm this.s.2⟩, ⟨this.v.1, hm this.v.2⟩, ⟨this.g.1, hm this.g.2⟩, ⟨this.c.1, hm this.c.2⟩, ⟨this.sh.1, hm this.sh.2⟩, this.o⟩, HE.parse_others e⟩
    have HGD := hid hgd
    obtain ⟨S, hS⟩ : ∃ S, (⟨b.toArray⟩ : ByteArray) = S := ⟨_, rfl⟩
    rw [hS] at hbs P1 P2 ⊢
    clear hS hl hgd
    go_enter Try.func4, Try.ntmps4
    go_wp2_with fail
    refine (P1.out _).mono ?_
    rintro e w1 ⟨hb1, h, c, vS, vV, vG, vC, vH, vO, rfl, hv, hm⟩
    have hgo : HE.Good h 2048 ∧ h.others.length ≤ 64 := by
      cases hp : HE.parse b with
      | ok h' => rw [hp] at hm; obtain ⟨rfl, -⟩ := hm; exact HGD.out _ hp
      | error c' => rw [hp] at hm; obtain ⟨rfl, -⟩ := hm; exact ⟨⟨⟨by simp [helZ], by simp [helZ]⟩, ⟨by simp [helZ], by simp [helZ]⟩, ⟨by simp [helZ], by simp [helZ]⟩, ⟨by simp [helZ], by simp [helZ]⟩, ⟨by simp [helZ], by simp [helZ]⟩, by simp [helZ]⟩, by simp [helZ]⟩
    have hr1 := hv.read hgo.1 (by omega)
    obtain ⟨aS, cS, rfl⟩ := owns_sl hv.s
    obtain ⟨aV, cV, rfl⟩ := owns_sl hv.v
    obtain ⟨aG, cG, rfl⟩ := owns_sl hv.g
    obtain ⟨aC, cC, rfl⟩ := owns_sl hv.c
    obtain ⟨aH, cH, rfl⟩ := owns_sl hv.sh
    obtain ⟨aO, cO, rfl⟩ := owns_sl hv.o
    have B1 := hid hb1
    have HM := hid hm
    have HR1 := hid hr1
    have HOL := hid hgo.2
    clear hb1 hm hr1 hv hgo P1 HGD
    unfold helCells
    go_upto_region 4 with (fail)
    have hbn := below_new (w := w1) (.cells #[.string ⟨h.random.toArray⟩, .string ⟨h.session.toArray⟩, .slice aS h.suites.length cS, .slice aV h.versions.length cV, .slice aG h.groups.length cG, .slice aC h.schemes.length cC, .slice aH h.shares.length cH, .bool h.shared, .string ⟨h.cookie.toArray⟩, .string ⟨h.name.toArray⟩, .bool h.early, .slice aO h.others.length cO] 38)
    have hgX : hget (w1.alloc (.cells #[.string ⟨h.random.toArray⟩, .string ⟨h.session.toArray⟩, .slice aS h.suites.length cS, .slice aV h.versions.length cV, .slice aG h.groups.length cG, .slice aC h.schemes.length cC, .slice aH h.shares.length cH, .bool h.shared, .string ⟨h.cookie.toArray⟩, .string ⟨h.name.toArray⟩, .bool h.early, .slice aO h.others.length cO] 38)) w1.heap.size = some (.cells #[.string ⟨h.random.toArray⟩, .string ⟨h.session.toArray⟩, .slice aS h.suites.length cS, .slice aV h.versions.length cV, .slice aG h.groups.length cG, .slice aC h.schemes.length cC, .slice aH h.shares.length cH, .bool h.shared, .string ⟨h.cookie.toArray⟩, .string ⟨h.name.toArray⟩, .bool h.early, .slice aO h.others.length cO] 38 (0, 0)) := alloc_at _ _
    have HR2 := hid (HR1.out.keep hbn)
    have B2 := hid (below_to B1.out hbn)
    generalize w1.alloc (.cells #[.string ⟨h.random.toArray⟩, .string ⟨h.session.toArray⟩, .slice aS h.suites.length cS, .slice aV h.versions.length cV, .slice aG h.groups.length cG, .slice aC h.schemes.length cC, .slice aH h.shares.length cH, .bool h.shared, .string ⟨h.cookie.toArray⟩, .string ⟨h.name.toArray⟩, .bool h.early, .slice aO h.others.length cO] 38) = w2 at *
    generalize w1.heap.size = X at *
    have HGX := hid hgX
    clear hbn hgX HR1 B1
    go_wp2_with fail
    refine (P2.out _).mono ?_
    rintro e w3 ⟨hb3, h', c', vS, vV, vG, vC, vH, vO, rfl, hr, hm⟩
    have hsame : h = h' ∧ c = c' := by
      have hm0 := HM.out
      cases hp : HE.parse b with
      | ok h0 => rw [hp] at hm0 hm; obtain ⟨rfl, rfl⟩ := hm0; obtain ⟨rfl, rfl⟩ := hm; exact ⟨rfl, rfl⟩
      | error c0 => rw [hp] at hm0 hm; obtain ⟨rfl, rfl⟩ := hm0; obtain ⟨rfl, rfl⟩ := hm; exact ⟨rfl, rfl⟩
    obtain ⟨rfl, rfl⟩ := hsame
    obtain ⟨bS, dS, rfl⟩ := hr.s.sl
    obtain ⟨bV, dV, rfl⟩ := hr.v.sl
    obtain ⟨bG, dG, rfl⟩ := hr.g.sl
    obtain ⟨bC, dC, rfl⟩ := hr.c.sl
    obtain ⟨bH, dH, rfl⟩ := hr.sh.sl
    obtain ⟨bO, dO, rfl⟩ := hr.o.sl
    have B3 := hid (below_to B2.out hb3)
    have HR3 := hid (HR2.out.keep hb3)
    have HQ3 := hid hr
    have HGX3 := hid (keepB hb3 HGX.out)
    clear hb3 hr hm HR2 B2 HGX P2 HM
    unfold helCells
    go_upto_region 5 with (fail)
    have hbn := below_new (w := w3) (.cells #[.string ⟨h.random.toArray⟩, .string ⟨h.session.toArray⟩, .slice bS h.suites.length dS, .slice bV h.versions.length dV, .slice bG h.groups.length dG, .slice bC h.schemes.length dC, .slice bH h.shares.length dH, .bool h.shared, .string ⟨h.cookie.toArray⟩, .string ⟨h.name.toArray⟩, .bool h.early, .slice bO h.others.length dO] 38)
    have hgY : hget (w3.alloc (.cells #[.string ⟨h.random.toArray⟩, .string ⟨h.session.toArray⟩, .slice bS h.suites.length dS, .slice bV h.versions.length dV, .slice bG h.groups.length dG, .slice bC h.schemes.length dC, .slice bH h.shares.length dH, .bool h.shared, .string ⟨h.cookie.toArray⟩, .string ⟨h.name.toArray⟩, .bool h.early, .slice bO h.others.length dO] 38)) w3.heap.size = some (.cells #[.string ⟨h.random.toArray⟩, .string ⟨h.session.toArray⟩, .slice bS h.suites.length dS, .slice bV h.versions.length dV, .slice bG h.groups.length dG, .slice bC h.schemes.length dC, .slice bH h.shares.length dH, .bool h.shared, .string ⟨h.cookie.toArray⟩, .string ⟨h.name.toArray⟩, .bool h.early, .slice bO h.others.length dO] 38 (0, 0)) := alloc_at _ _
    have HR4 := hid (HR3.out.keep hbn)
    have HQ4 := hid (HQ3.out.keep hbn)
    have B4 := hid (below_to B3.out hbn)
    have hgX := keepB hbn HGX3.out
    generalize w3.alloc (.cells #[.string ⟨h.random.toArray⟩, .string ⟨h.session.toArray⟩, .slice bS h.suites.length dS, .slice bV h.versions.length dV, .slice bG h.groups.length dG, .slice bC h.schemes.length dC, .slice bH h.shares.length dH, .bool h.shared, .string ⟨h.cookie.toArray⟩, .string ⟨h.name.toArray⟩, .bool h.early, .slice bO h.others.length dO] 38) = w4 at *
    generalize w3.heap.size = Y at *
    change hget w4 X = _ at hgX
    have HGX4 := hid hgX
    have HGY4 := hid hgY
    have hsm := hid (hsame_any HR4.out HQ4.out (Nat.le_trans HOL.out (by decide)))
    unfold helCells at hsm
    clear hbn HR3 HQ3 B3 HGX3
    go_wp2_with fail
    refine hsm.out.mono ?_
    rintro e w5 ⟨hb5, rfl⟩
    have B5 := hid (below_to B4.out hb5)
    have HR5 := hid (HR4.out.keep hb5)
    have HQ5 := hid (HQ4.out.keep hb5)
    have hgX5 : hget w5 X = _ := keepB hb5 HGX4.out
    have HGX5 := hid hgX5
    have HGY5 := hid (keepB hb5 HGY4.out)
    have hch := choose_any HR5.out
    unfold helCells at hch
    unfold chV at hch
    obtain ⟨CR, hCR⟩ : ∃ CR, HE.choose h = CR := ⟨_, rfl⟩
    rw [hCR] at hch
    have HCR := hid hCR
    obtain ⟨cs, cb, ce⟩ := CR
    dsimp only at hch
    obtain ⟨CS, hCS⟩ : ∃ CS, (⟨cs.toArray⟩ : ByteArray) = CS := ⟨_, rfl⟩
    rw [hCS] at hch
    have HCS := hid hCS
    have HCH := hid hch
    clear hb5 hgX hgY HR4 HQ4 B4 HGX4 HGY4 hsm hch hCR hCS hgX5
    have hgX5 := HGX5.out
    go_wp2_with fail
    refine HCH.out.mono ?_
    rintro e w6 ⟨hb6, rfl⟩
    have B6 := hid (below_to B5.out hb6)
    have hgY6 : hget w6 Y = _ := keepB hb6 HGY5.out
    have hch := rchoose_any (HQ5.out.keep hb6)
    unfold helCells at hch
    unfold chV at hch
    rw [HCR.out] at hch
    dsimp only at hch
    rw [HCS.out] at hch
    have HCH2 := hid hch
    clear hb6 hch HCH HR5 HQ5 B5 HGX5 HGY5 hgX5
    go_wp2_with fail
    refine HCH2.out.mono ?_
    rintro e w7 ⟨hb7, rfl⟩
    have B7 := hid (below_to B6.out hb7)
    clear hb7 HCH2 B6 hgY6 HCR HCS
    go_wp2_with fail
    refine (hA.out _).mono ?_
    rintro e w8 ⟨rfl, hb8⟩
    have B8 := hid (below_to B7.out hb8)
    clear hb8
    go_wp2_with fail
    go_ret
    exact ⟨rfl, B8.out⟩
namespace helloParses
                       open Go.ChangeShapes Go.WideShapes Go.ChangeAt Go.RowKit
                       open Go.ChangeMaps (open_string shut_string)
                       theorem own : ownKnob Try.prog.godebug = none := by kernel_rfl
                       theorem laidOut : laidOutB Try.prog = true := by kernel_rfl
                       set_option maxRecDepth 100000 in
                       theorem lifted (os : Os) (started : os.Started) (H : Type) (enc : TypeId × Value → H) :
                           ReturnsInHanded {} Try.checked os 4 .any (Rows.helloParsesSpec.pre6 enc Try.prog Try.f4 Rows.helloParsesRow.domain false) (Rows.helloParsesSpec.post enc Try.prog Try.f4 false true false false) := by
                         refine returnsInHanded_of_change (C := Try.checked) own started (by kernel_rfl) Try.func4
                           (ChangeSpec.witness6 (enc := enc) (C := Try.checked) false ⟨#[], #[.string ByteArray.empty], []⟩ 8 (by kernel_rfl) (by kernel_rfl) (by kernel_rfl) (by kernel_rfl)) ?_
                         intro W base args ds gs before hval0 hW hcnd _
                         have hval : ∀ (j : Nat) t v, Try.f4.params[j]? = some t → args[j]? = some v → Value.okWide Try.prog W .any base t v := hval0
                         have hW' := hW
                         obtain ⟨p, q, hA0, hV, rfl, hfz, hnd⟩ := hW
                         have hA : DataW.TrodAll enc Try.prog W 0 (fun _ => true) true Try.f4.params.toList args.toList ds p := hA0
                         rw [Try.params4] at hA hval
                         obtain ⟨v0, vs0, d0, ds0, p0, q0, hargs, rfl, rfl, h0, r0⟩ := trodAll_cons hA
                         obtain ⟨rfl, rfl, rfl⟩ := trodAll_nil r0
                         obtain rfl : args = #[v0] := by cases args; simp_all
                         obtain ⟨rfl, rfl⟩ := trodVars_none hV
                         have k0 := h0
                         have lt0 : ∀ x ∈ p0, x.block < W.heap.size := by obtain ⟨m, hm⟩ := k0; exact DataW.trod_lt m _ _ _ hm
                         obtain ⟨a0, rfl, rfl, rfl, w0⟩ := open_string Try.underlying9 (hval 0 9 v0 rfl rfl) h0
                         clear hA0 hval0
                         obtain ⟨b, eb⟩ : ∃ l : List UInt8, a0 = ⟨l.toArray⟩ := ⟨a0.data.toList, by cases a0; simp⟩
                         subst eb
                         refine Calls.mono (R := fun e w' => e = .returned (.bool true) ∧ Below W.heap.size W w') ?_ fun e W' ⟨he, bel⟩ => ?_
                         · exact lparses_any b W
                         subst he
                         exact ⟨_, rfl, _, _, _, [], _, [], hW', trodAll_mk1 (shut_bool Try.underlying4 _), (trodAll_cons_mk (Below.trod laidOut (by kernel_rfl) (of_decide_eq_true (by kernel_rfl)) k0 bel lt0) trodAll_mk0), rfl, bel.frame _, fun h => by cases h⟩
                       
                       theorem over : Rows.helloParsesRow.holds Try.pinned (OpenSpec.ofChange Rows.helloParsesSpec) :=
                         OpenClaim.holds_of_wide 4 Try.f4 rfl rfl rfl rfl rfl rfl rfl ⟨rfl, rfl, rfl, rfl, rfl⟩ rfl rfl rfl rfl rfl (by kernel_rfl) Try.func4 (by kernel_rfl)
                           (of_decide_eq_true (by kernel_rfl)) (by unfold Func.isWrapper; first | (rw [if_pos (by decide +kernel)]; kernel_rfl) | (rw [if_neg (by decide +kernel)]; exact ⟨rfl, rfl⟩))
                           (fun os started H enc _ => lifted os started H enc)
                       end helloParses
                       /-- The given statement. -/
                       theorem helloParses_proved : Rows.HelloParsesSaid := helloParses.over
                       #print axioms helloParses_proved

end Go.Proofs.Ytliblhfabnjpkaa
