/- The law HelloSays: for every input it returns true and leaves its arguments as they were. -/
import Derived.Test.YtliblhfabnjpkaaM01
import Derived.ProofKit
import Derived.OpenShut
import Derived.ShutString
import Derived.ChangeOld
import Derived.Deep.Slices
import Derived.Deep.Fields
import Derived.ChangeSame
import Derived.Test.YtliblhfabnjpkaaM07
import Derived.Deep.RegionHeld3
import Derived.Test.YtliblhfabnjpkaaM06
import Derived.Test.YtliblhfabnjpkaaM08
namespace Go.Proofs.Ytliblhfabnjpkaa
open Go.RowKit Go.ChangeShapes Go.WideShapes Go.Deep

section
variable {H : Type} {enc : TypeId × Value → H} {P : Program} {w : World} {base : Nat} {spare : Nat → Bool} {held : Bool}
/-- The kit's own page on structs has this theorem for copying: a slice of structs, each field of one cell. -/
theorem open_slice_fields {t e : TypeId} {fs : Array Field} {fuel : Nat} {cs : List Value} {x : DataW H × List MemPlace} (ht : P.underlying t = some (.slice e)) (he : P.underlying e = some (.struct fs))
    (hone : oneCellFields P fs = true) (hC : P.cellsOf e = fs.size) (h : DataW.trod enc P w base spare held fuel t cs = some x) :
    (cs = [.slice none 0 0] ∧ x = (.nil, [])) ∨
    ∃ (a : Addr) (len cap m : Nat) (D : Nat → DataW H) (Pl : Nat → List MemPlace), cs = [.slice (some a) len cap] ∧ base ≤ a.block ∧ len ≤ cap ∧ cap ≤ maxLen ∧ m = (if spare a.block then cap else len) ∧
      x = (.slice ((List.range len).map D) ((List.range (m - len)).map fun j => D (len + j)), MemPlace.row a (m * fs.size) ++ (List.range m).flatMap Pl) ∧
      ∀ i, i < m → ∃ (ys : List (DataW H × List MemPlace)) (n : Nat), D i = .agg (ys.map (·.1)) ∧ Pl i = ys.flatMap (·.2) ∧ ys.length = fs.size ∧
        ∀ (j : Nat) (f : Field), fs[j]? = some f → ∃ (v : Value) (y : DataW H × List MemPlace), w.cell? (a.add (i * fs.size + j)) = some v ∧ ys[j]? = some y ∧ DataW.trod enc P w base spare held n f.type [v] = some y := by
  rcases open_slice ht h with h0 | ⟨a, len, cap, m, n, D, Pl, hcs, hb, hl, hm, hmm, hx, hi⟩
  · exact .inl h0
  · refine .inr ⟨a, len, cap, m, D, Pl, hcs, hb, hl, hm, hmm, by rw [hC] at hx; exact hx, fun i him => ?_⟩
    obtain ⟨cs', hc, ht'⟩ := hi i him
    rw [hC] at hc
    obtain ⟨ys, n', hn', hy, hlen, hyl, hf⟩ := DataW.trod_struct he ht'
    obtain ⟨_, hcl, hat⟩ := World.cells?_some hc
    simp only [Prod.mk.injEq] at hy
    refine ⟨ys, n', hy.1, hy.2, hyl, fun j f hj => ?_⟩
    obtain ⟨ho, hk⟩ := hone_of hone j f hj
    have hjl : j < fs.size := (Array.getElem?_eq_some_iff.1 hj).1
    have hcell := hat j hjl
    have hv : cs'[j]? = some (cs'[j]'(by omega)) := List.getElem?_eq_getElem (by omega)
    have h1 := hf j f hj
    rw [ho, hk] at h1
    have hone' : (cs'.drop j).take 1 = [cs'[j]'(by omega)] := by
      rw [List.drop_eq_getElem_cons (by omega)]
      rfl
    rw [hone'] at h1
    have hys : ys[j]? = some (ys[j]'(by omega)) := List.getElem?_eq_getElem (by omega)
    refine ⟨_, _, ?_, hys, h1.trans hys⟩
    rw [← Go.Deep.add_add, hcell, hv]

/-- A slice of structs that came in: its length, and the cells of its elements at a plain address. -/
theorem slice_fields_at {t e : TypeId} {fs : Array Field} {fuel : Nat} {a : Option Addr} {len cap : Nat} {x : DataW H × List MemPlace} (ht : P.underlying t = some (.slice e)) (he : P.underlying e = some (.struct fs))
    (hone : oneCellFields P fs = true) (hC : P.cellsOf e = fs.size) (hpos : 0 < fs.size) (h : DataW.trod enc P w base (fun _ => true) held fuel t [.slice a len cap] = some x) :
    len ≤ maxLen ∧ (len = 0 ∨ ∃ b off, a = some ⟨b, off, none⟩ ∧ b < w.heap.size ∧ ∀ i, i < len → ∃ n, ∀ (j : Nat) (f : Field), fs[j]? = some f →
      ∃ (v : Value) (y : DataW H × List MemPlace), w.cell? ⟨b, off + i * fs.size + j, none⟩ = some v ∧ DataW.trod enc P w base (fun _ => true) held n f.type [v] = some y) := by
  rcases open_slice_fields ht he hone hC h with ⟨hcs, _⟩ | ⟨a', l, c, m, D, Pl, hcs, _, hl, hm, hmm, _, hi⟩
  · simp only [List.cons.injEq, Value.slice.injEq, and_true] at hcs
    obtain ⟨rfl, rfl, rfl⟩ := hcs
    exact ⟨Nat.zero_le _, .inl rfl⟩
  · simp only [List.cons.injEq, Value.slice.injEq, and_true] at hcs
    obtain ⟨rfl, rfl, rfl⟩ := hcs
    refine ⟨by omega, ?_⟩
    by_cases h0 : len = 0
    · exact .inl h0
    · right
      have hmc : m = cap := by simpa using hmm
      obtain ⟨ys, n, _, _, _, hf⟩ := hi 0 (by omega)
      obtain ⟨v, y, hc, _, _⟩ := hf 0 fs[0] (by simp [hpos])
      obtain ⟨b, off, spot⟩ := a'
      have hspot : spot = none := by simpa [Addr.add] using World.cell?_spot hc
      subst hspot
      refine ⟨b, off, rfl, by simpa [add_plain] using World.block_lt_of_cell? w _ hc, fun i hil => ?_⟩
      obtain ⟨ys, n, _, _, _, hf⟩ := hi i (by omega)
      refine ⟨n, fun j f hj => ?_⟩
      obtain ⟨v, y, hc, _, ht'⟩ := hf j f hj
      rw [add_plain, ← Nat.add_assoc] at hc
      exact ⟨v, y, hc, ht'⟩
end

end Go.Proofs.Ytliblhfabnjpkaa

namespace Go.Proofs.Ytliblhfabnjpkaa
open Go Go.RowKit

section
variable {P : Program} {ops : Array Oper} {pv : List Nat} {Rel : Nat → Value → World → Prop} {C : World → Prop}

def also (S : Nat → Bool) (i : Nat) : Nat → Bool := fun j => if j = i then true else S j
/-- What waits for another comes behind it. -/
def CloS (ops : Array Oper) (S : Nat → Bool) : Prop := ∀ j o, ops[j]? = some o → S j = true → ∀ e ∈ o.after, Region.binds .any e = true → S e.on = true
def Due (ops : Array Oper) (S : Nat → Bool) (i : Nat) : Prop := S i = false ∧ ∀ o, ops[i]? = some o → ∀ e ∈ o.after, Region.binds .any e = true → S e.on = true
abbrev InvT := (Nat → Bool) → (Nat → Value) → World → Prop
def PostI (ops : Array Oper) (pv : List Nat) (Inv : InvT) : PostT := fun i v g w u x => ∀ S, CloS ops S → Due ops S i → Inv S g w → (i ∉ pv → u = v) ∧ Inv (also S i) (if i ∈ pv then fun p => if p = i then u else g p else g) x

theorem wpAny_of_inv (h : Priv ops pv) (hsel : ∀ (j : Nat) (o : Oper) cs b, ops[j]? = some o → o.op ≠ .select cs b) {Q : Act → Prop} {Q' : Exit → Act → World → Prop} (Inv : InvT)
    (hI1 : ∀ S g w, Inv S g w → C w) (hI2 : ∀ S g w p, p ∈ pv → S p = true → Inv S g w → Rel p (g p) w)
    (hU : ∀ S g w i o, ops[i]? = some o → o.guard ≠ none → Inv S g w → Inv (also S i) g w)
    (hQ : ∀ S g a w, (∀ s, s < ops.size → S s = true) → Inv S g w → Q a → Q' .normal (over ops pv g a) w) :
    ∀ (fuel : Nat) (listed : Array Bool) (a : Act) (g : Nat → Value) (r : Act) (w : World), Closed .any ops listed → Real ops pv (fun p => listed.getD p false) g a r → Inv (fun p => listed.getD p false) g w →
    listed.size = ops.size →
    wpAnyG P ops pv Rel C (PostI ops pv Inv) (fun listed a => (∀ s, s < ops.size → listed.getD s false = true) ∧ Q a) fuel listed a → wpAny P .any ops Q' fuel listed r w := by
  have fin : ∀ (listed : Array Bool) (a : Act) (g : Nat → Value) (r : Act) (w : World), Real ops pv (fun p => listed.getD p false) g a r → Inv (fun p => listed.getD p false) g w →
      (∀ s, s < ops.size → listed.getD s false = true) → Q a → Q' .normal r w := fun listed a g r w hr hi hall hq => by
    have hl : ∀ p ∈ pv, listed.getD p false = true := fun p hp => by
      obtain ⟨o, t, ho, _⟩ := h.has p hp
      exact hall p (Array.getElem?_eq_some_iff.1 ho).1
    rw [hr.all h hl]
    exact hQ _ g a w hall hi hq
  intro fuel
  induction fuel with
  | zero => intro listed a g r w _ hr hi hsz hh; exact ⟨hh.1, fin listed a g r w hr hi hh.2.1 hh.2.2⟩
  | succ fuel ih =>
    intro listed a g r w hc hr hinv hsz hh
    refine ⟨fun h0 => fin listed a g r w hr hinv (hh.1 h0).1 (hh.1 h0).2, fun i hi => ?_⟩
    have h2 := hh.2 i hi
    have hc2 := hc.set hi
    have hsz2 : (listed.setIfInBounds i true).size = ops.size := by simpa using hsz
    obtain ⟨hif, hil⟩ := getD_ft (mem_ready.1 hi).1
    have hS : (fun p => (listed.setIfInBounds i true).getD p false) i = true := by simp [hil]
    have hS2 : ∀ p, p ≠ i → (fun p => (listed.setIfInBounds i true).getD p false) p = (fun p => listed.getD p false) p := fun p hp => getD_set_ne false (Ne.symm hp)
    have hSe : (fun p => (listed.setIfInBounds i true).getD p false) = also (fun p => listed.getD p false) i := by
      funext j
      unfold also
      by_cases hj : j = i
      · rw [if_pos hj, hj]; exact hS
      · rw [if_neg hj]; exact hS2 j hj
    obtain ⟨_, o, ho, hall⟩ := mem_ready.1 hi
    have hclo : CloS ops (fun p => listed.getD p false) := fun j oj hj hl e he hb => hc j oj hj hl e he hb
    have hdue : Due ops (fun p => listed.getD p false) i := ⟨hif, fun o' ho' e he hb => by
      have : o' = o := Option.some.inj (ho'.symm.trans ho)
      subst this
      exact hall e he hb⟩
    unfold gOp at h2
    unfold wpOp
    simp only [ho] at h2 ⊢
    obtain ⟨v, hd, hK⟩ := h2
    rw [real_wanted h ho hr]
    rcases hd with ⟨hwt, hd⟩ | ⟨hwt, rfl⟩
    · rw [hwt, if_pos rfl]
      refine .inl ?_
      have hwl : ∀ p ∈ pv, waitsB o p = true → listed.getD p false = true := fun p hp hwp => by
        unfold waitsB at hwp
        obtain ⟨e, he, hb⟩ := Array.any_eq_true'.1 hwp
        simp only [Bool.and_eq_true, beq_iff_eq] at hb
        rw [← hb.2]; exact hall e he hb.1
      refine wp_of_gRaw (real_exec h ho (fun cs b => hsel i o cs b ho) hr hwl) (hd g w (hI1 _ g w hinv) (fun p hp hwp => hI2 _ g w p hp (hwl p hp (by unfold usesB at hwp; rw [Bool.and_eq_true] at hwp; exact hwp.1)) hinv)) fun u x hok => ?_
      obtain ⟨e1, e2⟩ := hok _ hclo hdue hinv
      rw [← hSe] at e2
      by_cases hip : i ∈ pv
      · rw [if_pos hip] at e2
        exact ih _ _ (fun p => if p = i then u else g p) _ _ hc2 (hr.step h ho hS hS2 v u _ (fun p hp => if_neg hp) (by rw [if_pos hip, if_pos rfl])) e2 hsz2 hK
      · rw [if_neg hip] at e2
        exact ih _ _ g _ _ hc2 (hr.step h ho hS hS2 v u g (fun _ _ => rfl) (by rw [if_neg hip]; exact e1 hip)) e2 hsz2 hK
    · rw [hwt]
      have hgn : o.guard ≠ none := fun hg => by
        unfold Region.wanted at hwt
        rw [hg] at hwt
        cases hwt
      have hip : i ∉ pv := fun hp => by
        obtain ⟨o2, t, ho2, _, hg⟩ := h.has i hp
        have : o2 = o := Option.some.inj (ho2.symm.trans ho)
        subst this
        exact hgn hg
      refine ih _ _ g _ _ hc2 (hr.step h ho hS hS2 undef undef g (fun _ _ => rfl) (by rw [if_neg hip])) ?_ hsz2 hK
      rw [hSe]
      exact hU _ g w i o ho hgn hinv
/-- The law. -/
theorem wp_region_inv {id : Nat} {Q : Exit → Act → World → Prop} {a : Act} {w : World} {l : List Oper} (pv : List Nat) (Rel : Nat → Value → World → Prop) (C : World → Prop) (Inv : InvT) (hm : P.follows .mixedOrders = true) (hB : Region.lexB .any l.toArray = true) (hP : privB l.toArray pv = true)
    (hI0 : Inv (fun _ => false) (fun _ => undef) w.drew) (hI1 : ∀ S g w, Inv S g w → C w) (hI2 : ∀ S g w p, p ∈ pv → S p = true → Inv S g w → Rel p (g p) w)
    (hU : ∀ S g w i o, l[i]? = some o → o.guard ≠ none → Inv S g w → Inv (also S i) g w)
    (h : wpGho P l.toArray pv Rel C (PostI l.toArray pv Inv) (fun a' => ∀ S g w', (∀ s, s < l.length → S s = true) → Inv S g w' → Q .normal (over l.toArray pv g a') w') 0 l a) : (Code.region id l.toArray true).wp P Q a w := by
  simp only [Region.lexB, Bool.and_eq_true] at hB
  refine wp_region_any hm ?_
  have hp := Priv.of hP
  have hx := wpAnyG_lex (P := P) (pv := pv) (Rel := Rel) (C := C) hp hB.1 l 0 (Array.replicate l.toArray.size false) a (by simp) (by simp) (fun j hj => absurd hj (Nat.not_lt_zero _)) (by simpa using hB.2) h
  have hf : ∀ m j, (Array.replicate m false).getD j false = false := fun m j => by
    rcases Nat.lt_or_ge j m with h | h
    · simp [h]
    · simp [h]
  have hy := wpAny_of_inv (P := P) (ops := l.toArray) (pv := pv) (Rel := Rel) (C := C) hp (Region.noSelect_spec hB.1) Inv hI1 hI2 (fun S g w i o ho => hU S g w i o (by simpa using ho))
    (fun S g a w' hs hi hq => hq S g w' (fun s hs' => hs s (by simpa using hs')) hi) _ _ _ (fun _ => undef) a w.drew (fun j oj _ hl => by rw [hf] at hl; cases hl)
    ⟨rfl, rfl, fun t _ => by
      unfold valAt
      have : (pv.find? fun p => (Array.replicate l.toArray.size false).getD p false && dstOf l.toArray p == some t) = none := by
        rw [List.find?_eq_none]; intro p _; rw [hf]; simp
      rw [this]⟩ (by rw [show (fun p => (Array.replicate l.toArray.size false).getD p false) = fun _ => false from funext fun p => hf _ p]; exact hI0) (by simp) hx
  simpa using hy
end

end Go.Proofs.Ytliblhfabnjpkaa

namespace Go.Proofs.Ytliblhfabnjpkaa
open Go Go.RowKit

/-- A world of a class. -/
structure Ph (C : World → Prop) where
  w' : World
  h : C w'
/-- An operation that gives a value and leaves the world. -/
def gSame (w : World) (v : Value) : Result Next → Prop
  | .ok (.value u) x => u = v ∧ x = w
  | .ok .skip x => undef = v ∧ x = w
  | _ => False
@[go_sem] theorem gSame_value (w : World) (u v : Value) : gSame w v (.ok (.value u) w) = (u = v) := propext ⟨fun h => h.1, fun h => ⟨h, rfl⟩⟩
@[go_sem] theorem gSame_skip (w : World) (v : Value) : gSame w v (.ok .skip w) = (undef = v) := propext ⟨fun h => h.1, fun h => ⟨h, rfl⟩⟩
/-- An operation that calls. -/
def gCall (P : Program) (w : World) (ok : Value → World → Prop) : Result Next → Prop
  | .ok (.enter f args) x => x = w ∧ Calls P f args w (fun e w'' => ∃ u, e = .returned u ∧ ok u w'')
  | _ => False
@[go_sem] theorem gCall_enter (P : Program) (w : World) (ok : Value → World → Prop) (f : FuncId) (args : Array Value) : gCall P w ok (.ok (.enter f args) w) = Calls P f args w (fun e w'' => ∃ u, e = .returned u ∧ ok u w'') := propext ⟨fun h => h.2, fun h => ⟨rfl, h⟩⟩

def Inv2 (i1 i2 : Nat) (J0 J1 J2 : World → Prop) : InvT := fun S _ w => (S i1 = false ∧ S i2 = false ∧ J0 w) ∨ (S i1 = true ∧ S i2 = false ∧ J1 w) ∨ (S i1 = true ∧ S i2 = true ∧ J2 w)
def C2 (J0 J1 J2 : World → Prop) : World → Prop := fun w => J0 w ∨ J1 w ∨ J2 w
section
variable {P : Program} {l : List Oper} {i1 i2 : Nat} {J0 J1 J2 : World → Prop} {Q : Act → Prop} {i : Nat} {a : Act} {o : Oper} {rest : List Oper}
abbrev wpC2 (P : Program) (l : List Oper) (i1 i2 : Nat) (J0 J1 J2 : World → Prop) (Q : Act → Prop) (i : Nat) (rest : List Oper) (a : Act) : Prop :=
  wpGho P l.toArray [] (fun _ _ _ => True) (C2 J0 J1 J2) (PostI l.toArray [] (Inv2 i1 i2 J0 J1 J2)) Q i rest a
def chainB (l : List Oper) (i1 i2 : Nat) : Bool :=
  i1 != i2 && ((l[i1]?.any fun o => o.guard.isNone) && (l[i2]?.any fun o => o.guard.isNone && o.after.any fun e => Region.binds .any e && e.on == i1))
structure Chain (l : List Oper) (i1 i2 : Nat) : Prop where
  ne : i1 ≠ i2
  g1 : ∃ o, l[i1]? = some o ∧ o.guard = none
  g2 : ∃ o, l[i2]? = some o ∧ o.guard = none ∧ ∃ e ∈ o.after, Region.binds .any e = true ∧ e.on = i1
theorem Chain.of (h : chainB l i1 i2 = true) : Chain l i1 i2 := by
  unfold chainB at h
  simp only [Bool.and_eq_true, bne_iff_ne, Option.any_eq_true] at h
  obtain ⟨h1, ⟨o1, ho1, hg1⟩, ⟨o2, ho2, hg2, ha⟩⟩ := h
  obtain ⟨e, he, hb⟩ := Array.any_eq_true'.1 ha
  simp only [Bool.and_eq_true, beq_iff_eq] at hb
  exact ⟨h1, ⟨o1, ho1, by simpa using hg1⟩, ⟨o2, ho2, by simpa using hg2, e, he, hb⟩⟩
theorem lt_of_get {l : List Oper} {i : Nat} {o : Oper} (h : l[i]? = some o) : i < l.length := (List.getElem?_eq_some_iff.1 h).1
theorem also_ne {S : Nat → Bool} {i j : Nat} (h : j ≠ i) : also S i j = S j := if_neg h
theorem also_same {S : Nat → Bool} {i : Nat} : also S i i = true := if_pos rfl
theorem wpGho_then {P : Program} {ops : Array Oper} {pv : List Nat} {Rel : Nat → Value → World → Prop} {C : World → Prop} {Post : PostT} {Q Q' : Act → Prop} (h : ∀ a, Q a → Q' a) : ∀ (l : List Oper) (i : Nat) (a : Act), wpGho P ops pv Rel C Post Q i l a → wpGho P ops pv Rel C Post Q' i l a
  | [], _, a, hh => h a hh
  | _ :: rest, i, _, ⟨v, h1, h2⟩ => ⟨v, h1, wpGho_then h rest (i + 1) _ h2⟩
/-- The law. -/
theorem wp_region_calls2 {id : Nat} {Q : Exit → Act → World → Prop} {w : World} (i1 i2 : Nat) (J0 J1 J2 : World → Prop) (hm : P.follows .mixedOrders = true) (hB : Region.lexB .any l.toArray = true) (hch : chainB l i1 i2 = true)
    (hP : privB l.toArray [] = true) (h0 : J0 w.drew) (h : wpC2 P l i1 i2 J0 J1 J2 (fun a' => ∀ w', J2 w' → Q .normal a' w') 0 l a) : (Code.region id l.toArray true).wp P Q a w := by
  have C := Chain.of hch
  obtain ⟨o1, ho1, hg1⟩ := C.g1
  obtain ⟨o2, ho2, hg2, _⟩ := C.g2
  refine wp_region_inv [] (fun _ _ _ => True) (C2 J0 J1 J2) (Inv2 i1 i2 J0 J1 J2) hm hB hP (.inl ⟨rfl, rfl, h0⟩) (fun S g w hi => ?_) (fun _ _ _ p hp => absurd hp (by simp)) (fun S g w i o ho hgn hi => ?_) ?_
  · rcases hi with h | h | h
    · exact .inl h.2.2
    · exact .inr (.inl h.2.2)
    · exact .inr (.inr h.2.2)
  · have n1 : i1 ≠ i := fun e => by
      subst e
      have : o = o1 := Option.some.inj (ho.symm.trans ho1)
      rw [this] at hgn
      exact hgn hg1
    have n2 : i2 ≠ i := fun e => by
      subst e
      have : o = o2 := Option.some.inj (ho.symm.trans ho2)
      rw [this] at hgn
      exact hgn hg2
    unfold Inv2 at hi ⊢
    rw [also_ne n1, also_ne n2]
    exact hi
  · refine wpGho_then (fun a' ha' => ?_) _ _ _ h
    intro S g x hs hi
    refine ha' x ?_
    have s1 := hs i1 (lt_of_get ho1)
    have s2 := hs i2 (lt_of_get ho2)
    rcases hi with h | h | h
    · rw [s1] at h; exact absurd h.1 (by decide)
    · rw [s2] at h; exact absurd h.2.1 (by decide)
    · exact h.2.2
theorem wpC2_plain (hP : privB l.toArray [] = true) (hsel : isSelect o = false) (h1 : (i1 != i) = true) (h2 : (i2 != i) = true)
    (h : ∀ K : Act → Prop, (∀ a, wpC2 P l i1 i2 J0 J1 J2 Q (i + 1) rest a → K a) →
      if Region.wanted o (yielded l.toArray a.tmps) then ∃ v, (∀ x : Ph (C2 J0 J1 J2), gSame x.w' v ((execOp a.eval o).run P x.w')) ∧ K (a.put o.dst v) else K (a.put o.dst undef)) :
    wpC2 P l i1 i2 J0 J1 J2 Q i (o :: rest) a := by
  have n1 : i1 ≠ i := bne_iff_ne.1 h1
  have n2 : i2 ≠ i := bne_iff_ne.1 h2
  have h3 := h _ (fun _ h => h)
  cases hw : Region.wanted o (yielded l.toArray a.tmps)
  · rw [hw] at h3
    exact ⟨undef, .inr ⟨hw, rfl⟩, h3⟩
  · rw [hw, if_pos rfl] at h3
    obtain ⟨v, a1, a2⟩ := h3
    refine ⟨v, .inl ⟨hw, ?_⟩, a2⟩
    intro g w1 hC _
    rw [over_plain (Priv.of hP) (not_select hsel) rfl]
    have hr := a1 ⟨w1, hC⟩
    have key : PostI l.toArray [] (Inv2 i1 i2 J0 J1 J2) i v g w1 v w1 := by
      intro S hclo hdue hinv
      refine ⟨fun _ => rfl, ?_⟩
      unfold Inv2 at hinv ⊢
      rw [also_ne n1, also_ne n2]
      exact hinv
    generalize (execOp a.eval o).run P w1 = r at hr
    cases r with
    | ok n x =>
      cases n with
      | value u => obtain ⟨e1, e2⟩ : u = v ∧ x = w1 := hr; rw [e1, e2]; exact key
      | skip => obtain ⟨e1, e2⟩ : undef = v ∧ x = w1 := hr; rw [e2]; subst e1; exact key
      | _ => exact hr.elim
    | halt y x => exact hr.elim
theorem gRaw_of_gCall {w : World} {ok ok' : Value → World → Prop} {r : Result Next} (h : gCall P w ok r) (hk : ∀ u x, ok u x → ok' u x) : gRaw P w ok' r := by
  cases r with
  | ok n x =>
    cases n with
    | enter f args => obtain ⟨e, hc⟩ := h; exact ⟨e, hc.mono fun e w'' ⟨u, h1, h2⟩ => ⟨u, h1, hk u w'' h2⟩⟩
    | _ => exact h.elim
  | halt y x => exact h.elim
theorem wpC2_call1 (hP : privB l.toArray [] = true) (hch : chainB l i1 i2 = true) (hi : (i1 == i) = true) (hg : o.guard = none) (hsel : isSelect o = false)
    (h : ∀ K : Act → Prop, (∀ a, wpC2 P l i1 i2 J0 J1 J2 Q (i + 1) rest a → K a) →
      ∃ v, (∀ x : Ph (C2 J0 J1 J2), gCall P x.w' (fun u y => J0 x.w' → u = v ∧ J1 y) ((execOp a.eval o).run P x.w')) ∧ K (a.put o.dst v)) :
    wpC2 P l i1 i2 J0 J1 J2 Q i (o :: rest) a := by
  have hi' : i1 = i := by simpa using hi
  subst hi'
  have C := Chain.of hch
  obtain ⟨v, a1, a2⟩ := h _ (fun _ h => h)
  refine ⟨v, .inl ⟨by unfold Region.wanted; rw [hg], ?_⟩, a2⟩
  intro g w1 hC _
  rw [over_plain (Priv.of hP) (not_select hsel) rfl]
  refine gRaw_of_gCall (a1 ⟨w1, hC⟩) fun u y hk => ?_
  intro S hclo hdue hinv
  rcases hinv with h | h | h
  · obtain ⟨e1, e2⟩ := hk h.2.2
    refine ⟨fun _ => e1, .inr (.inl ⟨also_same, ?_, e2⟩)⟩
    rw [also_ne (Ne.symm C.ne)]
    exact h.2.1
  · rw [hdue.1] at h; exact absurd h.1 (by decide)
  · rw [hdue.1] at h; exact absurd h.1 (by decide)
theorem wpC2_call2 (hP : privB l.toArray [] = true) (hch : chainB l i1 i2 = true) (hi : (i2 == i) = true) (hio : l[i]? = some o) (hg : o.guard = none) (hsel : isSelect o = false)
    (h : ∀ K : Act → Prop, (∀ a, wpC2 P l i1 i2 J0 J1 J2 Q (i + 1) rest a → K a) →
      ∃ v, (∀ x : Ph (C2 J0 J1 J2), gCall P x.w' (fun u y => J1 x.w' → u = v ∧ J2 y) ((execOp a.eval o).run P x.w')) ∧ K (a.put o.dst v)) :
    wpC2 P l i1 i2 J0 J1 J2 Q i (o :: rest) a := by
  have hi' : i2 = i := by simpa using hi
  subst hi'
  have C := Chain.of hch
  obtain ⟨v, a1, a2⟩ := h _ (fun _ h => h)
  refine ⟨v, .inl ⟨by unfold Region.wanted; rw [hg], ?_⟩, a2⟩
  intro g w1 hC _
  rw [over_plain (Priv.of hP) (not_select hsel) rfl]
  refine gRaw_of_gCall (a1 ⟨w1, hC⟩) fun u y hk => ?_
  intro S hclo hdue hinv
  obtain ⟨o2, ho2, hg2, e, he, hb, hon⟩ := C.g2
  have hs1 : S i1 = true := by
    have := hdue.2 o2 (by simpa using ho2) e he hb
    rwa [hon] at this
  rcases hinv with h | h | h
  · rw [hs1] at h; exact absurd h.1 (by decide)
  · obtain ⟨e1, e2⟩ := hk h.2.2
    refine ⟨fun _ => e1, .inr (.inr ⟨?_, also_same, e2⟩)⟩
    rw [also_ne C.ne]
    exact h.1
  · rw [hdue.1] at h; exact absurd h.2.1 (by decide)
end

end Go.Proofs.Ytliblhfabnjpkaa

namespace Go.Proofs.Ytliblhfabnjpkaa
open Go Go.RowKit

section
variable {P : Program} {ops : Array Oper} {pv : List Nat}
/-- What stands where an operation is carried out. -/
abbrev AskT := Nat → (Nat → Value) → World → Prop
def cGAsked (P : Program) (ops : Array Oper) (pv : List Nat) (A : AskT) (Post : PostT) (i : Nat) (o : Oper) (v : Value) (a : Act) : Prop :=
  ∀ g w, A i g w → gRaw P w (Post i v g w) ((execOp (over ops pv g a).eval o).run P w)
def cGDoes (P : Program) (ops : Array Oper) (pv : List Nat) (A : AskT) (Post : PostT) (i : Nat) (o : Oper) (v : Value) (a : Act) : Prop :=
  (Region.wanted o (yielded ops a.tmps) = true ∧ cGAsked P ops pv A Post i o v a) ∨ (Region.wanted o (yielded ops a.tmps) = false ∧ v = undef)
def cwpGho (P : Program) (ops : Array Oper) (pv : List Nat) (A : AskT) (Post : PostT) (Q : Act → Prop) : Nat → List Oper → Act → Prop
  | _, [], a => Q a
  | i, o :: rest, a => ∃ v, cGDoes P ops pv A Post i o v a ∧ cwpGho P ops pv A Post Q (i + 1) rest (a.put o.dst v)
def cgOp (P : Program) (ops : Array Oper) (pv : List Nat) (A : AskT) (Post : PostT) (i : Nat) (K : Act → Prop) (a : Act) : Prop :=
  match ops[i]? with
  | none => K a
  | some o => ∃ v, cGDoes P ops pv A Post i o v a ∧ K (a.put o.dst v)
variable {Post : PostT} {A : AskT}
theorem cgOp_mono {i : Nat} {a : Act} {K K' : Act → Prop} (h : ∀ a, K a → K' a) (hh : cgOp P ops pv A Post i K a) : cgOp P ops pv A Post i K' a := by
  unfold cgOp at *
  split
  · exact h _ (by simpa [*] using hh)
  · rename_i o ho
    simp only [ho] at hh
    obtain ⟨v, h1, h2⟩ := hh
    exact ⟨v, h1, h _ h2⟩
def cwpAnyG (P : Program) (ops : Array Oper) (pv : List Nat) (A : AskT) (Post : PostT) (Q : Array Bool → Act → Prop) : Nat → Array Bool → Act → Prop
  | 0, listed, a => Region.ready .any ops listed = [] ∧ Q listed a
  | fuel + 1, listed, a =>
    (Region.ready .any ops listed = [] → Q listed a) ∧
    ∀ i ∈ Region.ready .any ops listed, cgOp P ops pv A Post i (cwpAnyG P ops pv A Post Q fuel (listed.setIfInBounds i true)) a
theorem cGDoes.of_put (h : Priv ops pv) {i : Nat} {o : Oper} (hi : ops[i]? = some o) (hs : ∀ cs b, o.op ≠ .select cs b) {v u : Value} {a : Act} {d : Option Tmp} (hl : ∀ t, d = some t → t ∉ o.looksAt ops) :
    cGDoes P ops pv A Post i o v (a.put d u) ↔ cGDoes P ops pv A Post i o v a := by
  unfold cGDoes cGAsked
  rw [wanted_put o a d u hl]
  constructor
  · rintro (⟨h1, h2⟩ | h1)
    · refine .inl ⟨h1, fun g w hw => ?_⟩
      have h3 := h2 g w hw
      rwa [over_put_exec h hi hs g a d u hl] at h3
    · exact .inr h1
  · rintro (⟨h1, h2⟩ | h1)
    · refine .inl ⟨h1, fun g w hw => ?_⟩
      rw [over_put_exec h hi hs g a d u hl]
      exact h2 g w hw
    · exact .inr h1
theorem cgOp_put (h : Priv ops pv) {i j : Nat} {oi oj : Oper} {v : Value} (hi : ops[i]? = some oi) (hj : ops[j]? = some oj) (hap : oi.apart ops oj = true)
    (hsi : ∀ cs b, oi.op ≠ .select cs b) (hsj : ∀ cs b, oj.op ≠ .select cs b) {K : Act → Prop} {a : Act}
    (hy : cGDoes P ops pv A Post i oi v a) (hh : cgOp P ops pv A Post j K (a.put oi.dst v)) :
    cgOp P ops pv A Post j (fun a' => cGDoes P ops pv A Post i oi v a' ∧ K (a'.put oi.dst v)) a := by
  obtain ⟨h1, h2, h3⟩ := Oper.apart_spec hap
  have hj2 := hj
  unfold cgOp at *
  simp only [hj] at hh ⊢
  obtain ⟨u, hu, hn⟩ := hh
  refine ⟨u, (cGDoes.of_put h hj2 hsj h1).1 hu, (cGDoes.of_put h hi hsi h3).2 hy, ?_⟩
  rw [← Act.put_comm a v u h2]
  exact hn
theorem cwpAnyG_first (h : Priv ops pv) {Q : Array Bool → Act → Prop} {i : Nat} {oi : Oper} {v : Value} (hi : ops[i]? = some oi) (hsel : ∀ (j : Nat) (o : Oper) cs b, ops[j]? = some o → o.op ≠ .select cs b) :
    ∀ (fuel : Nat) (listed : Array Bool) (a : Act),
      (∀ j oj, ops[j]? = some oj → j ≠ i → listed.getD j true = false → (∀ e ∈ oj.after, Region.binds .any e = true → e.on ≠ i) → oi.apart ops oj = true) →
      i ∈ Region.ready .any ops listed → cGDoes P ops pv A Post i oi v a →
      cwpAnyG P ops pv A Post Q fuel (listed.setIfInBounds i true) (a.put oi.dst v) → cwpAnyG P ops pv A Post Q (fuel + 1) listed a := by
  intro fuel
  have take : ∀ {K : Act → Prop} {a : Act}, cGDoes P ops pv A Post i oi v a → K (a.put oi.dst v) → cgOp P ops pv A Post i K a := fun hy h => by
    unfold cgOp; simp only [hi]; exact ⟨v, hy, h⟩
  induction fuel with
  | zero =>
    intro listed a _ hr hy H
    refine ⟨fun h => (by rw [h] at hr; cases hr), fun j hj => ?_⟩
    by_cases hji : j = i
    · subst hji; exact take hy H
    · have := ready_mono hj hji
      rw [H.1] at this
      cases this
  | succ fuel ih =>
    intro listed a hfree hr hy H
    refine ⟨fun h => (by rw [h] at hr; cases hr), fun j hj => ?_⟩
    by_cases hji : j = i
    · subst hji; exact take hy H
    · have h1 := H.2 j (ready_mono hj hji)
      obtain ⟨hjun, oj, hoj, hall⟩ := mem_ready.1 hj
      have hnot : ∀ e ∈ oj.after, Region.binds .any e = true → e.on ≠ i := fun e he hb heq => by
        have h1 := hall e he hb
        have h0 := (mem_ready.1 hr).1
        rw [heq] at h1
        rcases Nat.lt_or_ge i listed.size with h' | h'
        · simp [h'] at h0 h1; rw [h0] at h1; cases h1
        · simp [Array.getElem?_eq_none h'] at h1
      have h2 := cgOp_put h hi hoj (hfree j oj hoj hji hjun hnot) (fun cs b => hsel i oi cs b hi) (fun cs b => hsel j oj cs b hoj) hy h1
      have hfree' : ∀ m om, ops[m]? = some om → m ≠ i → (listed.setIfInBounds j true).getD m true = false →
          (∀ e ∈ om.after, Region.binds .any e = true → e.on ≠ i) → oi.apart ops om = true := fun m om hm hmi hun hno => by
        refine hfree m om hm hmi ?_ hno
        by_cases hjm : j = m
        · subst hjm; exact hjun
        · rw [getD_set_ne true hjm] at hun; exact hun
      refine cgOp_mono (fun a' h3 => ih (listed.setIfInBounds j true) a' hfree' (ready_mono hr (Ne.symm hji)) h3.1 ?_) h2
      rw [Array.setIfInBounds_comm _ _ hji]
      exact h3.2
theorem cwpAnyG_lex (h : Priv ops pv) {Q : Act → Prop} (hs : Region.noSelect ops = true) : ∀ (l : List Oper) (m : Nat) (listed : Array Bool) (a : Act), (∀ j, l[j]? = ops[m + j]?) → listed.size = ops.size → (∀ j, j < m → j < ops.size → listed.getD j false = true) →
    Region.lexFrom .any ops l.length m listed = true → cwpGho P ops pv A Post Q m l a → cwpAnyG P ops pv A Post (fun listed a => (∀ s, s < ops.size → listed.getD s false = true) ∧ Q a) l.length listed a
  | [], m, listed, _, hl, hz, hd, hB, hh => ⟨by simpa [Region.lexFrom] using hB, fun s hsz => hd s (by
      rcases Nat.lt_or_ge s m with h1 | h1
      · exact h1
      · have := hl (s - m)
        rw [show m + (s - m) = s by omega, Array.getElem?_eq_getElem hsz] at this
        cases this) hsz, hh⟩
  | o :: l, m, listed, a, hl, hz, hd, hB, hh => by
    have h0 : ops[m]? = some o := by simpa using (hl 0).symm
    have hml : m < ops.size := (Array.getElem?_eq_some_iff.1 h0).1
    simp only [List.length_cons, Region.lexFrom, Bool.and_eq_true] at hB
    obtain ⟨⟨hr, hf⟩, hB'⟩ := hB
    obtain ⟨v, hy, hK⟩ := hh
    refine cwpAnyG_first h h0 (Region.noSelect_spec hs) l.length listed a (Region.free_spec h0 hf) (by simpa using hr) hy
      (cwpAnyG_lex h hs l (m + 1) _ _ (fun j => by have := hl (j + 1); simpa [Nat.add_assoc, Nat.add_comm 1 j] using this) (by simpa using hz) (fun j hj hjs => ?_) hB' hK)
    by_cases hjm : j = m
    · subst hjm; simp [hz, hml]
    · exact getD_set_true (hd j (by omega) hjs)
theorem cwpAny_of_inv (h : Priv ops pv) (hsel : ∀ (j : Nat) (o : Oper) cs b, ops[j]? = some o → o.op ≠ .select cs b) {Q : Act → Prop} {Q' : Exit → Act → World → Prop} (Inv : InvT)
    (hI1 : ∀ S i g w, CloS ops S → Due ops S i → Inv S g w → A i g w)
    (hU : ∀ S g w i o, ops[i]? = some o → o.guard ≠ none → Inv S g w → Inv (also S i) g w)
    (hQ : ∀ S g a w, (∀ s, s < ops.size → S s = true) → Inv S g w → Q a → Q' .normal (over ops pv g a) w) :
    ∀ (fuel : Nat) (listed : Array Bool) (a : Act) (g : Nat → Value) (r : Act) (w : World), Closed .any ops listed → Real ops pv (fun p => listed.getD p false) g a r → Inv (fun p => listed.getD p false) g w →
    listed.size = ops.size →
    cwpAnyG P ops pv A (PostI ops pv Inv) (fun listed a => (∀ s, s < ops.size → listed.getD s false = true) ∧ Q a) fuel listed a → wpAny P .any ops Q' fuel listed r w := by
  have fin : ∀ (listed : Array Bool) (a : Act) (g : Nat → Value) (r : Act) (w : World), Real ops pv (fun p => listed.getD p false) g a r → Inv (fun p => listed.getD p false) g w →
      (∀ s, s < ops.size → listed.getD s false = true) → Q a → Q' .normal r w := fun listed a g r w hr hi hall hq => by
    have hl : ∀ p ∈ pv, listed.getD p false = true := fun p hp => by
      obtain ⟨o, t, ho, _⟩ := h.has p hp
      exact hall p (Array.getElem?_eq_some_iff.1 ho).1
    rw [hr.all h hl]
    exact hQ _ g a w hall hi hq
  intro fuel
  induction fuel with
  | zero => intro listed a g r w _ hr hi hsz hh; exact ⟨hh.1, fin listed a g r w hr hi hh.2.1 hh.2.2⟩
  | succ fuel ih =>
    intro listed a g r w hc hr hinv hsz hh
    refine ⟨fun h0 => fin listed a g r w hr hinv (hh.1 h0).1 (hh.1 h0).2, fun i hi => ?_⟩
    have h2 := hh.2 i hi
    have hc2 := hc.set hi
    have hsz2 : (listed.setIfInBounds i true).size = ops.size := by simpa using hsz
    obtain ⟨hif, hil⟩ := getD_ft (mem_ready.1 hi).1
    have hS : (fun p => (listed.setIfInBounds i true).getD p false) i = true := by simp [hil]
    have hS2 : ∀ p, p ≠ i → (fun p => (listed.setIfInBounds i true).getD p false) p = (fun p => listed.getD p false) p := fun p hp => getD_set_ne false (Ne.symm hp)
    have hSe : (fun p => (listed.setIfInBounds i true).getD p false) = also (fun p => listed.getD p false) i := by
      funext j
      unfold also
      by_cases hj : j = i
      · rw [if_pos hj, hj]; exact hS
      · rw [if_neg hj]; exact hS2 j hj
    obtain ⟨_, o, ho, hall⟩ := mem_ready.1 hi
    have hclo : CloS ops (fun p => listed.getD p false) := fun j oj hj hl e he hb => hc j oj hj hl e he hb
    have hdue : Due ops (fun p => listed.getD p false) i := ⟨hif, fun o' ho' e he hb => by
      have : o' = o := Option.some.inj (ho'.symm.trans ho)
      subst this
      exact hall e he hb⟩
    unfold cgOp at h2
    unfold wpOp
    simp only [ho] at h2 ⊢
    obtain ⟨v, hd, hK⟩ := h2
    rw [real_wanted h ho hr]
    rcases hd with ⟨hwt, hd⟩ | ⟨hwt, rfl⟩
    · rw [hwt, if_pos rfl]
      refine .inl ?_
      have hwl : ∀ p ∈ pv, waitsB o p = true → listed.getD p false = true := fun p hp hwp => by
        unfold waitsB at hwp
        obtain ⟨e, he, hb⟩ := Array.any_eq_true'.1 hwp
        simp only [Bool.and_eq_true, beq_iff_eq] at hb
        rw [← hb.2]; exact hall e he hb.1
      refine wp_of_gRaw (real_exec h ho (fun cs b => hsel i o cs b ho) hr hwl) (hd g w (hI1 _ i g w hclo hdue hinv)) fun u x hok => ?_
      obtain ⟨e1, e2⟩ := hok _ hclo hdue hinv
      rw [← hSe] at e2
      by_cases hip : i ∈ pv
      · rw [if_pos hip] at e2
        exact ih _ _ (fun p => if p = i then u else g p) _ _ hc2 (hr.step h ho hS hS2 v u _ (fun p hp => if_neg hp) (by rw [if_pos hip, if_pos rfl])) e2 hsz2 hK
      · rw [if_neg hip] at e2
        exact ih _ _ g _ _ hc2 (hr.step h ho hS hS2 v u g (fun _ _ => rfl) (by rw [if_neg hip]; exact e1 hip)) e2 hsz2 hK
    · rw [hwt]
      have hgn : o.guard ≠ none := fun hg => by
        unfold Region.wanted at hwt
        rw [hg] at hwt
        cases hwt
      have hip : i ∉ pv := fun hp => by
        obtain ⟨o2, t, ho2, _, hg⟩ := h.has i hp
        have : o2 = o := Option.some.inj (ho2.symm.trans ho)
        subst this
        exact hgn hg
      refine ih _ _ g _ _ hc2 (hr.step h ho hS hS2 undef undef g (fun _ _ => rfl) (by rw [if_neg hip])) ?_ hsz2 hK
      rw [hSe]
      exact hU _ g w i o ho hgn hinv
/-- The law. -/
theorem cwp_region_inv {id : Nat} {Q : Exit → Act → World → Prop} {a : Act} {w : World} {l : List Oper} (pv : List Nat) (A : AskT) (Inv : InvT) (hm : P.follows .mixedOrders = true) (hB : Region.lexB .any l.toArray = true) (hP : privB l.toArray pv = true)
    (hI0 : Inv (fun _ => false) (fun _ => undef) w.drew) (hI1 : ∀ S i g w, CloS l.toArray S → Due l.toArray S i → Inv S g w → A i g w)
    (hU : ∀ S g w i o, l[i]? = some o → o.guard ≠ none → Inv S g w → Inv (also S i) g w)
    (h : cwpGho P l.toArray pv A (PostI l.toArray pv Inv) (fun a' => ∀ S g w', (∀ s, s < l.length → S s = true) → Inv S g w' → Q .normal (over l.toArray pv g a') w') 0 l a) : (Code.region id l.toArray true).wp P Q a w := by
  simp only [Region.lexB, Bool.and_eq_true] at hB
  refine wp_region_any hm ?_
  have hp := Priv.of hP
  have hx := cwpAnyG_lex (P := P) (pv := pv) (A := A) hp hB.1 l 0 (Array.replicate l.toArray.size false) a (by simp) (by simp) (fun j hj => absurd hj (Nat.not_lt_zero _)) (by simpa using hB.2) h
  have hf : ∀ m j, (Array.replicate m false).getD j false = false := fun m j => by
    rcases Nat.lt_or_ge j m with h | h
    · simp [h]
    · simp [h]
  have hy := cwpAny_of_inv (P := P) (ops := l.toArray) (pv := pv) (A := A) hp (Region.noSelect_spec hB.1) Inv hI1 (fun S g w i o ho => hU S g w i o (by simpa using ho))
    (fun S g a w' hs hi hq => hq S g w' (fun s hs' => hs s (by simpa using hs')) hi) _ _ _ (fun _ => undef) a w.drew (fun j oj _ hl => by rw [hf] at hl; cases hl)
    ⟨rfl, rfl, fun t _ => by
      unfold valAt
      have : (pv.find? fun p => (Array.replicate l.toArray.size false).getD p false && dstOf l.toArray p == some t) = none := by
        rw [List.find?_eq_none]; intro p _; rw [hf]; simp
      rw [this]⟩ (by rw [show (fun p => (Array.replicate l.toArray.size false).getD p false) = fun _ => false from funext fun p => hf _ p]; exact hI0) (by simp) hx
  simpa using hy
end

/-- How far the chain has come. -/
def InvC (is : List Nat) (J : Nat → (Nat → Value) → World → Prop) : InvT := fun S g w => ∃ k, k ≤ is.length ∧ (∀ j i, is[j]? = some i → S i = decide (j < k)) ∧ J k g w
def AskC (ops : Array Oper) (is : List Nat) (J : Nat → (Nat → Value) → World → Prop) : AskT := fun i g w => ∃ S, CloS ops S ∧ Due ops S i ∧ InvC is J S g w
/-- It waits for operation i, directly or through others. -/
def waitsT (ops : Array Oper) (o : Oper) (i : Nat) : Bool := o.after.any fun e => Region.binds .any e && (e.on == i || pathB ops i ops.size e.on)
theorem path_S {ops : Array Oper} {S : Nat → Bool} (hc : CloS ops S) (i : Nat) : ∀ (f s : Nat), pathB ops i f s = true → S s = true → S i = true
  | 0, _, h, _ => by cases h
  | f + 1, s, h, hl => by
    unfold pathB at h
    cases ho : ops[s]? with
    | none => rw [ho] at h; cases h
    | some o =>
      rw [ho] at h
      obtain ⟨e, he, hb⟩ := Array.any_eq_true'.1 h
      simp only [Bool.and_eq_true, Bool.or_eq_true, beq_iff_eq] at hb
      have h1 := hc s o ho hl e he hb.1
      rcases hb.2 with h2 | h2
      · rw [← h2]; exact h1
      · exact path_S hc i f e.on h2 h1
theorem waitsT_S {ops : Array Oper} {S : Nat → Bool} {o : Oper} {i p : Nat} (hc : CloS ops S) (hd : Due ops S i) (ho : ops[i]? = some o) (h : waitsT ops o p = true) : S p = true := by
  unfold waitsT at h
  obtain ⟨e, he, hb⟩ := Array.any_eq_true'.1 h
  simp only [Bool.and_eq_true, Bool.or_eq_true, beq_iff_eq] at hb
  have h1 := hd.2 o ho e he hb.1
  rcases hb.2 with h2 | h2
  · rw [← h2]; exact h1
  · exact path_S hc p _ e.on h2 h1
section
variable {P : Program} {l : List Oper} {is : List Nat} {J : Nat → (Nat → Value) → World → Prop} {Q : Act → Prop} {i : Nat} {a : Act} {o : Oper} {rest : List Oper}
abbrev wpCh (P : Program) (l : List Oper) (is : List Nat) (J : Nat → (Nat → Value) → World → Prop) (Q : Act → Prop) (i : Nat) (rest : List Oper) (a : Act) : Prop :=
  cwpGho P l.toArray is (AskC l.toArray is J) (PostI l.toArray is (InvC is J)) Q i rest a
theorem cwpGho_then {ops : Array Oper} {pv : List Nat} {A : AskT} {Post : PostT} {Q Q' : Act → Prop} (h : ∀ a, Q a → Q' a) : ∀ (l : List Oper) (i : Nat) (a : Act), cwpGho P ops pv A Post Q i l a → cwpGho P ops pv A Post Q' i l a
  | [], _, a, hh => h a hh
  | _ :: rest, i, _, ⟨v, h1, h2⟩ => ⟨v, h1, cwpGho_then h rest (i + 1) _ h2⟩
/-- The law. -/
theorem wp_region_chain {id : Nat} {Q : Exit → Act → World → Prop} {w : World} (is : List Nat) (J : Nat → (Nat → Value) → World → Prop) (hm : P.follows .mixedOrders = true) (hB : Region.lexB .any l.toArray = true) (hP : privB l.toArray is = true)
    (h0 : J 0 (fun _ => undef) w.drew) (h : wpCh P l is J (fun a' => ∀ g w', J is.length g w' → Q .normal (over l.toArray is g a') w') 0 l a) : (Code.region id l.toArray true).wp P Q a w := by
  have hp := Priv.of hP
  refine cwp_region_inv is (AskC l.toArray is J) (InvC is J) hm hB hP ⟨0, Nat.zero_le _, fun j i _ => by simp, h0⟩ (fun S i g w h1 h2 h3 => ⟨S, h1, h2, h3⟩) (fun S g w i o ho hgn hi => ?_) ?_
  · obtain ⟨k, hk, hs, hJ⟩ := hi
    refine ⟨k, hk, fun j p hp2 => ?_, hJ⟩
    have hne : p ≠ i := fun e => by
      subst e
      obtain ⟨o2, t, ho2, _, hg⟩ := hp.has p (List.mem_of_getElem? hp2)
      have : o2 = o := Option.some.inj (ho2.symm.trans (by simpa using ho))
      subst this
      exact hgn hg
    rw [also_ne hne]
    exact hs j p hp2
  · refine cwpGho_then (fun a' ha' => ?_) _ _ _ h
    intro S g x hs hi
    obtain ⟨k, hk, hsk, hJ⟩ := hi
    have : k = is.length := by
      apply Classical.byContradiction
      intro hne
      have hlt : k < is.length := by omega
      have h1 := hsk k is[k] (List.getElem?_eq_getElem hlt)
      obtain ⟨o2, t, ho2, _⟩ := hp.has is[k] (List.getElem_mem hlt)
      have h2 : is[k] < l.length := by have := (Array.getElem?_eq_some_iff.1 ho2).1; simpa using this
      rw [hs _ h2] at h1
      have := of_decide_eq_true h1.symm
      omega
    subst this
    exact ha' g x hJ
/-- A world on the way. -/
structure PhC (is : List Nat) (J : Nat → (Nat → Value) → World → Prop) where
  w' : World
  k : Nat
  g : Nat → Value
  le : k ≤ is.length
  h : J k g w'
theorem postI_quiet {v : Value} {g : Nat → Value} {w1 : World} (hip : is.contains i = false) : PostI l.toArray is (InvC is J) i v g w1 v w1 := by
  have hni : i ∉ is := by simpa using hip
  intro S hclo hdue hinv
  obtain ⟨k, hk, hs, hJ⟩ := hinv
  refine ⟨fun _ => rfl, k, hk, fun j p hp => ?_, by rw [if_neg hni]; exact hJ⟩
  rw [also_ne (fun e => hni (by rw [← e]; exact List.mem_of_getElem? hp))]
  exact hs j p hp
theorem gRaw_of_gSame {w1 : World} {v : Value} {r : Result Next} (hr : gSame w1 v r) {ok : Value → World → Prop} (key : ok v w1) : gRaw P w1 ok r := by
  cases r with
  | ok n x =>
    cases n with
    | value u => obtain ⟨e1, e2⟩ : u = v ∧ x = w1 := hr; rw [e1, e2]; exact key
    | skip => obtain ⟨e1, e2⟩ : undef = v ∧ x = w1 := hr; rw [e2]; subst e1; exact key
    | _ => exact hr.elim
  | halt y x => exact hr.elim
theorem wpCh_quiet (hP : privB l.toArray is = true) (hip : is.contains i = false) (hsel : isSelect o = false) (hpl : (is.all fun p => !readsB o (dstOf l.toArray p)) = true)
    (h : ∀ K : Act → Prop, (∀ a, wpCh P l is J Q (i + 1) rest a → K a) →
      if Region.wanted o (yielded l.toArray a.tmps) then ∃ v, (∀ x : PhC is J, gSame x.w' v ((execOp a.eval o).run P x.w')) ∧ K (a.put o.dst v) else K (a.put o.dst undef)) :
    wpCh P l is J Q i (o :: rest) a := by
  have h3 := h _ (fun _ h => h)
  cases hw : Region.wanted o (yielded l.toArray a.tmps)
  · rw [hw] at h3
    exact ⟨undef, .inr ⟨hw, rfl⟩, h3⟩
  · rw [hw, if_pos rfl] at h3
    obtain ⟨v, a1, a2⟩ := h3
    refine ⟨v, .inl ⟨hw, ?_⟩, a2⟩
    rintro g w1 ⟨S, hclo, hdue, k, hk, hs, hJ⟩
    rw [over_plain (Priv.of hP) (not_select hsel) hpl]
    exact gRaw_of_gSame (a1 ⟨w1, k, g, hk, hJ⟩) (postI_quiet hip)
/-- An operation that reads what the chain has given, and waits for its r-th. -/
theorem wpCh_read (r : Nat) (hio : l.toArray[i]? = some o) (hip : is.contains i = false) (hg : o.guard = none) (hr : (match is[r]? with | some p => waitsT l.toArray o p | none => false) = true)
    (h : ∀ K : Act → Prop, (∀ a, wpCh P l is J Q (i + 1) rest a → K a) →
      ∃ v, (∀ (k : Nat) (g : Nat → Value) (w' : World), r < k → k ≤ is.length → J k g w' → gSame w' v ((execOp (over l.toArray is g a).eval o).run P w')) ∧ K (a.put o.dst v)) :
    wpCh P l is J Q i (o :: rest) a := by
  obtain ⟨v, a1, a2⟩ := h _ (fun _ h => h)
  refine ⟨v, .inl ⟨by unfold Region.wanted; rw [hg], ?_⟩, a2⟩
  rintro g w1 ⟨S, hclo, hdue, k, hk, hs, hJ⟩
  cases hp : is[r]? with
  | none => rw [hp] at hr; cases hr
  | some p =>
    rw [hp] at hr
    have h1 := waitsT_S hclo hdue hio hr
    rw [hs r p hp] at h1
    exact gRaw_of_gSame (a1 k g w1 (of_decide_eq_true h1) hk hJ) (postI_quiet hip)
/-- The chain's j-th operation. -/
theorem wpCh_op (j : Nat) (hio : l.toArray[i]? = some o) (hij : is[j]? = some i) (hnd : is.Nodup) (hg : o.guard = none) (hr : (match j with | 0 => true | r + 1 => match is[r]? with | some p => waitsT l.toArray o p | none => false) = true)
    (h : ∀ K : Act → Prop, (∀ a, wpCh P l is J Q (i + 1) rest a → K a) →
      (∀ (g : Nat → Value) (w' : World), J j g w' → gRaw P w' (fun u x => J (j + 1) (fun p => if p = i then u else g p) x) ((execOp (over l.toArray is g a).eval o).run P w')) ∧ K (a.put o.dst undef)) :
    wpCh P l is J Q i (o :: rest) a := by
  obtain ⟨a1, a2⟩ := h _ (fun _ h => h)
  refine ⟨undef, .inl ⟨by unfold Region.wanted; rw [hg], ?_⟩, a2⟩
  have hjl : j < is.length := (List.getElem?_eq_some_iff.1 hij).1
  have hmem : i ∈ is := List.mem_of_getElem? hij
  have phase : ∀ S k, CloS l.toArray S → Due l.toArray S i → (∀ j' p, is[j']? = some p → S p = decide (j' < k)) → k = j := fun S k hclo hdue hs => by
    have h1 := hs j i hij
    rw [hdue.1] at h1
    have h2 := of_decide_eq_false h1.symm
    cases j with
    | zero => omega
    | succ r =>
      cases hp : is[r]? with
      | none => simp only [] at hr; rw [hp] at hr; cases hr
      | some p =>
        simp only [] at hr
        rw [hp] at hr
        have h3 := waitsT_S hclo hdue hio hr
        rw [hs r p hp] at h3
        have := of_decide_eq_true h3
        omega
  rintro g w1 ⟨S, hclo, hdue, k, hk, hs, hJ⟩
  obtain rfl := phase S k hclo hdue hs
  refine gRaw_mono (fun u x hx => ?_) (a1 g w1 hJ)
  intro S' hclo' hdue' hinv'
  obtain ⟨k', hk', hs', hJ'⟩ := hinv'
  obtain rfl := phase S' k' hclo' hdue' hs'
  refine ⟨fun hn => absurd hmem hn, k' + 1, by omega, fun j' p hp => ?_, by rw [if_pos hmem]; exact hx⟩
  by_cases hpi : p = i
  · subst hpi
    have hjj : j' = k' := by
      have hj' : j' < is.length := (List.getElem?_eq_some_iff.1 hp).1
      exact (List.getElem?_inj hj' hnd).1 (hp.trans hij.symm)
    subst hjj
    rw [also_same]
    simp
  · rw [also_ne hpi, hs' j' p hp]
    have hne : j' ≠ k' := fun e => hpi (by rw [e, hij] at hp; exact (Option.some.inj hp).symm)
    by_cases hlt : j' < k'
    · rw [decide_eq_true hlt, decide_eq_true (by omega)]
    · rw [decide_eq_false hlt, decide_eq_false (by omega)]
end
end Go.Proofs.Ytliblhfabnjpkaa

namespace Go.Proofs.Ytliblhfabnjpkaa
open Go Go.RowKit
def shareX (share : List UInt8) : List UInt8 := be 2 29 ++ share
def extX (share : List UInt8) : List UInt8 := be 2 43 ++ be 2 2 ++ be 2 772 ++ be 2 51 ++ be 2 (shareX share).length ++ shareX share
def serverL (rnd ses share : List UInt8) : List UInt8 := be 2 771 ++ rnd ++ be 1 ses.length ++ ses ++ be 2 4867 ++ be 1 0 ++ be 2 (extX share).length ++ extX share
theorem shareX_length (s : List UInt8) : (shareX s).length = 2 + s.length := by simp [shareX, be_length]
theorem extX_length (s : List UInt8) : (extX s).length = 12 + s.length := by simp [extX, be_length, shareX_length]; omega
theorem serverL_length (r s x : List UInt8) : (serverL r s x).length = 20 + r.length + s.length + x.length := by simp [serverL, be_length, extX_length]; omega
/-- A text that bytes of a buffer are, as long as the buffer stays. -/
theorem conv_keep {w w' : World} {v : Value} {l : List UInt8} {B : Nat} (h : OwnsQ w v l) (hl : 0 < l.length) (hB : ∀ g, v.ownBlock = some g → g < B) (hb : Below B w w') : (convert 91 9 v).run Try.prog w' = .ok (.string ⟨l.toArray⟩) w' :=
  conv_hb (h.keep fun g _o hg ho => (hb.block g (hB g hg)).trans ho) hl
theorem owns_none (w : World) : OwnsQ (w.alloc (.cells #[] 5)) (.slice (some ⟨w.heap.size, 0, none⟩) 0 0) [] := .inr ⟨w.heap.size, 0, #[], rfl, alloc_at _ _, Nat.le_refl _, Nat.le_refl _, Nat.zero_le _, rfl⟩
/-- A buffer that grows: what stands behind the k-th step. -/
def bufJ (w0 : World) (is : List Nat) (L : Nat → List UInt8) (k : Nat) (g : Nat → Value) (w : World) : Prop :=
  Below w0.heap.size w0 w ∧ (k ≠ 0 → OwnsQ w (g (is.getD (k - 1) 0)) (L k) ∧ ∀ b, (g (is.getD (k - 1) 0)).ownBlock = some b → w0.heap.size ≤ b)
def srvL (rnd ses ex : List UInt8) : Nat → List UInt8
  | 0 => []
  | 1 => []
  | 2 => [] ++ be 2 771
  | 3 => [] ++ be 2 771 ++ rnd
  | 4 => [] ++ be 2 771 ++ rnd ++ be 1 ses.length ++ ses
  | 5 => [] ++ be 2 771 ++ rnd ++ be 1 ses.length ++ ses ++ be 2 4867
  | 6 => [] ++ be 2 771 ++ rnd ++ be 1 ses.length ++ ses ++ be 2 4867 ++ be 1 0
  | _ => [] ++ be 2 771 ++ rnd ++ be 1 ses.length ++ ses ++ be 2 4867 ++ be 1 0 ++ be 2 ex.length ++ ex
theorem srvL_length (rnd ses ex : List UInt8) (k : Nat) : (srvL rnd ses ex k).length ≤ 20 + rnd.length + ses.length + ex.length := by
  unfold srvL
  split <;> simp [be_length] <;> omega
set_option maxHeartbeats 4000000 in
theorem server_any (rnd ses share : List UInt8) (W : World) (hr : rnd.length ≤ 100000) (hs : ses.length ≤ 100000) (hsh : share.length ≤ 100000) :
    Calls Try.prog 51 #[.string ⟨rnd.toArray⟩, .string ⟨ses.toArray⟩, .string ⟨share.toArray⟩] W fun e w' => Below W.heap.size W w' ∧ e = .returned (.string ⟨(serverL rnd ses share).toArray⟩) := by
  have k1 : Calls Try.prog 54 #[.slice none 0 0, .int .u64 29, .int .i64 2] W _ := bnum_any (w := W) (B := W.heap.size) (.slice none 0 0) [] 29 2 (by omega) (.nil _) (fun g e => by cases e) (Nat.le_refl _) (by simp)
  have K1 := hid k1
  clear k1
  go_enter Try.func51, Try.ntmps51
  go_wp2_with fail
  refine K1.out.mono ?_
  rintro e w1 ⟨b1, v1, rfl, o1, g1⟩
  have k2 := btext_any (w := w1) (B := W.heap.size) v1 _ share o1 g1 b1.size (by simp [be_length]) (by omega)
  have K2 := hid k2
  have B1 := hid b1
  clear k2 b1 o1 g1 K1
  go_wp2_with fail
  refine K2.out.mono ?_
  rintro e w2 ⟨b2, v2, rfl, o2, g2⟩
  have B2 := hid (B1.out.trans b2)
  rw [show ([] ++ be 2 29 ++ share) = shareX share from rfl] at o2
  have O2 := hid o2
  have G2 := hid (fun g e => o2.lt (g := g) e)
  have k3 : Calls Try.prog 54 #[.slice none 0 0, .int .u64 43, .int .i64 2] w2 _ := bnum_any (w := w2) (B := w2.heap.size) (.slice none 0 0) [] 43 2 (by omega) (.nil _) (fun g e => by cases e) (Nat.le_refl _) (by simp)
  have K3 := hid k3
  clear b2 o2 g2 B1 K2 k3
  go_wp2_with fail
  refine K3.out.mono ?_
  rintro e w3 ⟨b3, v3, rfl, o3, g3⟩
  have B3 := hid b3
  have O3 := hid o3
  have G3 := hid g3
  clear b3 o3 g3 K3
  have k4 : Calls Try.prog 54 #[.slice (some ⟨w3.heap.size, 0, none⟩) 0 0, .int .u64 772, .int .i64 2] (w3.alloc (.cells #[] 5)) _ := bnum_any (w := w3.alloc (.cells #[] 5)) (B := w3.heap.size) _ [] 772 2 (by omega) (owns_none w3) (fun g e => by have e := Option.some.inj e; exact Nat.le_of_eq e) (by simp) (by simp)
  have K4 := hid k4
  clear k4
  go_wp2_with fail
  refine K4.out.mono ?_
  rintro e w4 ⟨b4, v4, rfl, o4, g4⟩
  have hcv := conv_hb o4 (by simp [be_length])
  rw [show ([] ++ be 2 772) = be 2 772 from rfl] at hcv
  have O3b := O3.out.keep (w' := w4) fun g o hg ho => (b4.block g (by have := O3.out.lt hg; simp; omega)).trans (keepB (below_new _) ho)
  have B4 := hid (show Below w2.heap.size w2 w4 from B3.out.trans (((below_new (w := w3) (.cells #[] 5)).trans b4).mono B3.out.size))
  have k5 : Calls Try.prog 49 #[v3, .int .i64 2, .string ⟨(be 2 772).toArray⟩] w4 _ := blist_any (w := w4) (B := w2.heap.size) _ _ 2 (be 2 772) (by omega) O3b G3.out B4.out.size (by simp [be_length]) (by simp [be_length])
  have K5 := hid k5
  obtain ⟨X, hX⟩ : ∃ X, (⟨(be 2 772).toArray⟩ : ByteArray) = X := ⟨_, rfl⟩
  rw [hX] at hcv K5
  clear b4 o4 g4 k5 K4 O3b B3 O3 G3 hX
  go_wp2_with fail
  refine K5.out.mono ?_
  rintro e w5 ⟨b5, v5, rfl, o5, g5⟩
  obtain ⟨X5, hX5⟩ : ∃ X, (([] ++ be 2 43) ++ be 2 (be 2 772).length ++ be 2 772) = X := ⟨_, rfl⟩
  rw [hX5] at o5
  have HX5 := hid hX5
  have hl5 : X5.length = 6 := by rw [← hX5]; simp [be_length]
  have B5 := hid (B4.out.trans b5)
  have O5 := hid o5
  have G5 := hid g5
  have hcv5 := conv_keep O2.out (by rw [shareX_length]; omega) G2.out B5.out
  have hcw : ∀ w', Below w2.heap.size w2 w' → (convert 91 9 v2).run Try.prog w' = .ok (.string ⟨(shareX share).toArray⟩) w' := fun w' hb => conv_keep O2.out (by rw [shareX_length]; omega) G2.out hb
  have hGl := shareX_length share
  obtain ⟨G, hG⟩ : ∃ G, shareX share = G := ⟨_, rfl⟩
  have HGE := hid hG
  rw [hG] at O2 hcv5 hGl
  simp only [hG] at hcw
  clear hG
  have hk7 : ∀ w' v l, OwnsQ w' v l → (∀ g, v.ownBlock = some g → w2.heap.size ≤ g) → w2.heap.size ≤ w'.heap.size → l.length ≤ 100 → Calls Try.prog 49 #[v, .int .i64 2, .string ⟨G.toArray⟩] w' _ := fun w' v l h1 h2 h3 h4 => blist_any (w := w') (B := w2.heap.size) v l 2 G (by omega) h1 h2 h3 (by omega) (by omega)
  have k6 : Calls Try.prog 54 #[v5, .int .u64 51, .int .i64 2] w5.drew _ := bnum_any (w := w5.drew) (B := w2.heap.size) v5 X5 51 2 (by omega) O5.out G5.out B5.out.size (by omega)
  obtain ⟨GS, hGS⟩ : ∃ X, (⟨G.toArray⟩ : ByteArray) = X := ⟨_, rfl⟩
  rw [hGS] at hcv5
  simp only [hGS] at hk7 hcw
  have HCW := hid hcw
  have K6 := hid k6
  have K7 := hid hk7
  clear b5 o5 g5 K5 B4 hX5 k6 hk7 hcv hcw hGS
  go_wp2_with fail
  have B5d := B5.out.drew
  go_region_held3 (fun w' => (convert 91 9 v2).run Try.prog w' = .ok (.string GS) w' ∧ Below w2.heap.size w2 w')
    (first | exact ⟨HCW.out _ (by assumption), by assumption⟩)
    (first | (go_at_call 54; refine K6.out.mono ?_; rintro e w6 ⟨b6, v6, rfl, o6, g6⟩; have B6 := B5d.trans b6) | (go_at_call 49; refine (K7.out _ v6 _ o6 g6 (by assumption : Below w2.heap.size w2 _).size (by simp [be_length]; omega)).mono ?_; rintro e w7 ⟨b7, v7, rfl, o7, g7⟩; have B7 := (by assumption : Below w2.heap.size w2 _).trans b7))
  have hxe : X5 ++ be 2 51 ++ be 2 G.length ++ G = extX share := by rw [← HX5.out, ← HGE.out]; unfold extX; simp [be_length]
  rw [hxe] at o7
  have hXl := extX_length share
  have HB7 := hid (B2.out.trans (B7.mono B2.out.size))
  have hcx : ∀ w', Below w7.heap.size w7 w' → (convert 91 9 v7).run Try.prog w' = .ok (.string ⟨(extX share).toArray⟩) w' := fun w' hb => conv_keep o7 (by omega) (fun g e => o7.lt e) hb
  have hSV := serverL_length rnd ses share
  have HSV := hid (show serverL rnd ses share = be 2 771 ++ rnd ++ (be 1 ses.length ++ ses) ++ be 2 4867 ++ be 1 0 ++ (be 2 (extX share).length ++ extX share) by simp [serverL])
  obtain ⟨SV, hSE⟩ : ∃ SV, serverL rnd ses share = SV := ⟨_, rfl⟩
  have HSE := hid hSE
  rw [hSE] at hSV HSV
  clear hSE
  generalize extX share = EX at *
  clear o6 g6 B6 b6 b7 o7 g7 B7 B5d K6 K7 HCW hcv5 B5 O5 G5 hxe HX5 HGE O2 G2 hGl hl5 B2
  obtain ⟨XS, hXS⟩ : ∃ X, (⟨EX.toArray⟩ : ByteArray) = X := ⟨_, rfl⟩
  obtain ⟨RS, hRS⟩ : ∃ X, (⟨rnd.toArray⟩ : ByteArray) = X := ⟨_, rfl⟩
  obtain ⟨SS, hSS⟩ : ∃ X, (⟨ses.toArray⟩ : ByteArray) = X := ⟨_, rfl⟩
  have hN1 : ∀ w' v l, OwnsQ w' v l → (∀ g, v.ownBlock = some g → w7.heap.size ≤ g) → w7.heap.size ≤ w'.heap.size → l.length ≤ 1000000 → Calls Try.prog 54 #[v, .int .u64 771, .int .i64 2] w' _ := fun w' v l h1 h2 h3 h4 => bnum_any (w := w') (B := w7.heap.size) v l 771 2 (by omega) h1 h2 h3 (by omega)
  have hN2 : ∀ w' v l, OwnsQ w' v l → (∀ g, v.ownBlock = some g → w7.heap.size ≤ g) → w7.heap.size ≤ w'.heap.size → l.length ≤ 1000000 → Calls Try.prog 54 #[v, .int .u64 4867, .int .i64 2] w' _ := fun w' v l h1 h2 h3 h4 => bnum_any (w := w') (B := w7.heap.size) v l 4867 2 (by omega) h1 h2 h3 (by omega)
  have hN3 : ∀ w' v l, OwnsQ w' v l → (∀ g, v.ownBlock = some g → w7.heap.size ≤ g) → w7.heap.size ≤ w'.heap.size → l.length ≤ 1000000 → Calls Try.prog 54 #[v, .int .u64 0, .int .i64 1] w' _ := fun w' v l h1 h2 h3 h4 => bnum_any (w := w') (B := w7.heap.size) v l 0 1 (by omega) h1 h2 h3 (by omega)
  have hT1 : ∀ w' v l, OwnsQ w' v l → (∀ g, v.ownBlock = some g → w7.heap.size ≤ g) → w7.heap.size ≤ w'.heap.size → l.length ≤ 1000000 → Calls Try.prog 65 #[v, .string ⟨rnd.toArray⟩] w' _ := fun w' v l h1 h2 h3 h4 => btext_any (w := w') (B := w7.heap.size) v l rnd h1 h2 h3 (by omega) (by omega)
  have hL1 : ∀ w' v l, OwnsQ w' v l → (∀ g, v.ownBlock = some g → w7.heap.size ≤ g) → w7.heap.size ≤ w'.heap.size → l.length ≤ 1000000 → Calls Try.prog 49 #[v, .int .i64 1, .string ⟨ses.toArray⟩] w' _ := fun w' v l h1 h2 h3 h4 => blist_any (w := w') (B := w7.heap.size) v l 1 ses (by omega) h1 h2 h3 (by omega) (by omega)
  have hL2 : ∀ w' v l, OwnsQ w' v l → (∀ g, v.ownBlock = some g → w7.heap.size ≤ g) → w7.heap.size ≤ w'.heap.size → l.length ≤ 1000000 → Calls Try.prog 49 #[v, .int .i64 2, .string ⟨EX.toArray⟩] w' _ := fun w' v l h1 h2 h3 h4 => blist_any (w := w') (B := w7.heap.size) v l 2 EX (by omega) h1 h2 h3 (by omega) (by omega)
  simp only [hRS] at hT1
  simp only [hSS] at hL1
  simp only [hXS] at hL2 hcx
  have N1 := hid hN1
  have N2 := hid hN2
  have N3 := hid hN3
  have T1 := hid hT1
  have L1 := hid hL1
  have L2 := hid hL2
  have HCX := hid hcx
  rw [hRS, hSS]
  clear hN1 hN2 hN3 hT1 hL1 hL2 hcx hRS hSS hXS
  have B7 := (Below.refl w7.heap.size w7).drew
  have hcur := HCX.out w7 (Below.refl _ _)
  go_wp2_with fail
  have hq : ∀ x : PhC [0, 1, 3, 5, 6, 7, 10] (bufJ w7 [0, 1, 3, 5, 6, 7, 10] (srvL rnd ses EX)), (convert 91 9 v7).run Try.prog x.w' = .ok (.string XS) x.w' := fun x => HCX.out _ x.h.1
  have hs7 : srvL rnd ses EX 7 = SV := by rw [HSV.out]; simp [srvL]
  have hs7 := hid hs7
  refine wp_region_chain [0, 1, 3, 5, 6, 7, 10] (bufJ w7 [0, 1, 3, 5, 6, 7, 10] (srvL rnd ses EX)) (by kernel_rfl) (by kernel_rfl) (by kernel_rfl) ?h0 ?_
  case h0 => exact ⟨(Below.refl _ _).drew, fun e => absurd rfl e⟩
  repeat (refine wpCh_quiet (by kernel_rfl) (by decide) (by rfl) (by rfl) (fun K hK => ?_); go_simp; (first | refine hK _ ?_ | refine ⟨_, fun _ => rfl, hK _ ?_⟩); clear hK K; try go_ints)
  refine wpCh_op 0 (by rfl) (by rfl) (by decide) (by rfl) (by kernel_rfl) (fun K hK => ?_)
  refine ⟨fun g w' hJ => ?_, hK _ ?_⟩
  · simp only [over, dstOf, List.getElem?_toArray, List.getElem?_cons_succ, List.getElem?_cons_zero, Option.bind_some]
    go_simp
    exact ⟨hJ.1.alloc hJ.1.size _, fun _ => ⟨owns_none w', fun b e => by have e := Option.some.inj e; have h1 := hJ.1.size; change w'.heap.size = b at e; omega⟩⟩
  clear hK K
  try simp only [Act.put, List.setIfInBounds_toArray, List.set_cons_zero, List.set_cons_succ]
  repeat (refine wpCh_quiet (by kernel_rfl) (by decide) (by rfl) (by rfl) (fun K hK => ?_); go_simp; (first | refine hK _ ?_ | refine ⟨_, fun _ => rfl, hK _ ?_⟩); clear hK K; try go_ints)
  refine wpCh_op 1 (by rfl) (by rfl) (by decide) (by rfl) (by kernel_rfl) (fun K hK => ?_)
  refine ⟨fun g w' hJ => ?_, hK _ ?_⟩
  · simp only [over, dstOf, List.getElem?_toArray, List.getElem?_cons_succ, List.getElem?_cons_zero, Option.bind_some]
    go_simp
    refine ⟨rfl, (N1.out w' _ _ (hJ.2 (by decide)).1 (hJ.2 (by decide)).2 hJ.1.size (Nat.le_trans (srvL_length _ _ _ _) (by omega))).mono ?_⟩
    rintro e wn ⟨bn, vn, rfl, hon, hgn⟩
    exact ⟨vn, rfl, hJ.1.trans bn, fun _ => ⟨hon, hgn⟩⟩
  clear hK K
  try simp only [Act.put, List.setIfInBounds_toArray, List.set_cons_zero, List.set_cons_succ]
  repeat (refine wpCh_quiet (by kernel_rfl) (by decide) (by rfl) (by rfl) (fun K hK => ?_); go_simp; (first | refine hK _ ?_ | refine ⟨_, fun _ => rfl, hK _ ?_⟩); clear hK K; try go_ints)
  refine wpCh_op 2 (by rfl) (by rfl) (by decide) (by rfl) (by kernel_rfl) (fun K hK => ?_)
  refine ⟨fun g w' hJ => ?_, hK _ ?_⟩
  · simp only [over, dstOf, List.getElem?_toArray, List.getElem?_cons_succ, List.getElem?_cons_zero, Option.bind_some]
    go_simp
    refine ⟨rfl, (T1.out w' _ _ (hJ.2 (by decide)).1 (hJ.2 (by decide)).2 hJ.1.size (Nat.le_trans (srvL_length _ _ _ _) (by omega))).mono ?_⟩
    rintro e wn ⟨bn, vn, rfl, hon, hgn⟩
    exact ⟨vn, rfl, hJ.1.trans bn, fun _ => ⟨hon, hgn⟩⟩
  clear hK K
  try simp only [Act.put, List.setIfInBounds_toArray, List.set_cons_zero, List.set_cons_succ]
  repeat (refine wpCh_quiet (by kernel_rfl) (by decide) (by rfl) (by rfl) (fun K hK => ?_); go_simp; (first | refine hK _ ?_ | refine ⟨_, fun _ => rfl, hK _ ?_⟩); clear hK K; try go_ints)
  refine wpCh_op 3 (by rfl) (by rfl) (by decide) (by rfl) (by kernel_rfl) (fun K hK => ?_)
  refine ⟨fun g w' hJ => ?_, hK _ ?_⟩
  · simp only [over, dstOf, List.getElem?_toArray, List.getElem?_cons_succ, List.getElem?_cons_zero, Option.bind_some]
    go_simp
    refine ⟨rfl, (L1.out w' _ _ (hJ.2 (by decide)).1 (hJ.2 (by decide)).2 hJ.1.size (Nat.le_trans (srvL_length _ _ _ _) (by omega))).mono ?_⟩
    rintro e wn ⟨bn, vn, rfl, hon, hgn⟩
    exact ⟨vn, rfl, hJ.1.trans bn, fun _ => ⟨hon, hgn⟩⟩
  clear hK K
  try simp only [Act.put, List.setIfInBounds_toArray, List.set_cons_zero, List.set_cons_succ]
  repeat (refine wpCh_quiet (by kernel_rfl) (by decide) (by rfl) (by rfl) (fun K hK => ?_); go_simp; (first | refine hK _ ?_ | refine ⟨_, fun _ => rfl, hK _ ?_⟩); clear hK K; try go_ints)
  refine wpCh_op 4 (by rfl) (by rfl) (by decide) (by rfl) (by kernel_rfl) (fun K hK => ?_)
  refine ⟨fun g w' hJ => ?_, hK _ ?_⟩
  · simp only [over, dstOf, List.getElem?_toArray, List.getElem?_cons_succ, List.getElem?_cons_zero, Option.bind_some]
    go_simp
    refine ⟨rfl, (N2.out w' _ _ (hJ.2 (by decide)).1 (hJ.2 (by decide)).2 hJ.1.size (Nat.le_trans (srvL_length _ _ _ _) (by omega))).mono ?_⟩
    rintro e wn ⟨bn, vn, rfl, hon, hgn⟩
    exact ⟨vn, rfl, hJ.1.trans bn, fun _ => ⟨hon, hgn⟩⟩
  clear hK K
  try simp only [Act.put, List.setIfInBounds_toArray, List.set_cons_zero, List.set_cons_succ]
  repeat (refine wpCh_quiet (by kernel_rfl) (by decide) (by rfl) (by rfl) (fun K hK => ?_); go_simp; (first | refine hK _ ?_ | refine ⟨_, fun _ => rfl, hK _ ?_⟩); clear hK K; try go_ints)
  refine wpCh_op 5 (by rfl) (by rfl) (by decide) (by rfl) (by kernel_rfl) (fun K hK => ?_)
  refine ⟨fun g w' hJ => ?_, hK _ ?_⟩
  · simp only [over, dstOf, List.getElem?_toArray, List.getElem?_cons_succ, List.getElem?_cons_zero, Option.bind_some]
    go_simp
    refine ⟨rfl, (N3.out w' _ _ (hJ.2 (by decide)).1 (hJ.2 (by decide)).2 hJ.1.size (Nat.le_trans (srvL_length _ _ _ _) (by omega))).mono ?_⟩
    rintro e wn ⟨bn, vn, rfl, hon, hgn⟩
    exact ⟨vn, rfl, hJ.1.trans bn, fun _ => ⟨hon, hgn⟩⟩
  clear hK K
  try simp only [Act.put, List.setIfInBounds_toArray, List.set_cons_zero, List.set_cons_succ]
  repeat (refine wpCh_quiet (by kernel_rfl) (by decide) (by rfl) (by rfl) (fun K hK => ?_); go_simp; (first | refine hK _ ?_ | refine ⟨_, fun _ => rfl, hK _ ?_⟩); clear hK K; try go_ints)
  refine wpCh_op 6 (by rfl) (by rfl) (by decide) (by rfl) (by kernel_rfl) (fun K hK => ?_)
  refine ⟨fun g w' hJ => ?_, hK _ ?_⟩
  · simp only [over, dstOf, List.getElem?_toArray, List.getElem?_cons_succ, List.getElem?_cons_zero, Option.bind_some]
    go_simp
    refine ⟨rfl, (L2.out w' _ _ (hJ.2 (by decide)).1 (hJ.2 (by decide)).2 hJ.1.size (Nat.le_trans (srvL_length _ _ _ _) (by omega))).mono ?_⟩
    rintro e wn ⟨bn, vn, rfl, hon, hgn⟩
    exact ⟨vn, rfl, hJ.1.trans bn, fun _ => ⟨hon, hgn⟩⟩
  clear hK K
  try simp only [Act.put, List.setIfInBounds_toArray, List.set_cons_zero, List.set_cons_succ]
  repeat (refine wpCh_quiet (by kernel_rfl) (by decide) (by rfl) (by rfl) (fun K hK => ?_); go_simp; (first | refine hK _ ?_ | refine ⟨_, fun _ => rfl, hK _ ?_⟩); clear hK K; try go_ints)
  refine wpCh_read 6 (by rfl) (by decide) (by rfl) (by kernel_rfl) (fun K hK => ?_)
  refine ⟨.string ⟨SV.toArray⟩, fun k g w' hk hle hJ => ?_, hK _ ?_⟩
  · simp only [over, dstOf, List.getElem?_toArray, List.getElem?_cons_succ, List.getElem?_cons_zero, Option.bind_some]
    obtain rfl : k = 7 := by simp at hle; omega
    have hcv := conv_hb (hJ.2 (by decide)).1 (by rw [show srvL rnd ses EX 7 = SV from hs7.out]; omega)
    rw [show srvL rnd ses EX 7 = SV from hs7.out] at hcv
    change (convert 91 9 (g 10)).run Try.prog w' = _ at hcv
    go_simp
  clear hK K
  try simp only [Act.put, List.setIfInBounds_toArray, List.set_cons_zero, List.set_cons_succ]
  repeat (refine wpCh_quiet (by kernel_rfl) (by decide) (by rfl) (by rfl) (fun K hK => ?_); go_simp; (first | refine hK _ ?_ | refine ⟨_, fun _ => rfl, hK _ ?_⟩); clear hK K; try go_ints)
  refine (show cwpGho _ _ _ _ _ _ _ [] _ from ?_)
  intro g wM hJ
  simp only [over, dstOf, List.getElem?_toArray, List.getElem?_cons_succ, List.getElem?_cons_zero, Option.bind_some]
  simp only [Act.put, List.setIfInBounds_toArray, List.set_cons_zero, List.set_cons_succ]
  have hb := hJ.1
  have HB := hid (below_to HB7.out hb)
  clear hJ hb hs7 HCX HSV hSV hXl
  go_wp2_with fail
  go_ret
  exact ⟨HB.out, by rw [HSE.out]; rfl⟩
end Go.Proofs.Ytliblhfabnjpkaa

namespace Go.Proofs.Ytliblhfabnjpkaa
open Go Go.RowKit
theorem below_self (w : World) : Hid (Below w.heap.size w w) := Below.refl _ _
set_option maxHeartbeats 4000000 in
theorem rserver_any (rnd ses share : List UInt8) (W : World) (hr : rnd.length ≤ 100000) (hs : ses.length ≤ 100000) (hsh : share.length ≤ 100000) :
    Calls Try.prog 52 #[.string ⟨rnd.toArray⟩, .string ⟨ses.toArray⟩, .string ⟨share.toArray⟩] W fun e w' => Below W.heap.size W w' ∧ e = .returned (.string ⟨(serverL rnd ses share).toArray⟩) := by
  have n43 : ∀ w1 : World, Calls Try.prog 55 #[.int .i64 43, .int .i64 2] w1 fun e w' => Below w1.heap.size w1 w' ∧ e = .returned (.string ⟨(be 2 43).toArray⟩) := fun w1 => rnum_any (w := w1) 43 2 (by omega) (by omega)
  have n772 : ∀ w1 : World, Calls Try.prog 55 #[.int .i64 772, .int .i64 2] w1 fun e w' => Below w1.heap.size w1 w' ∧ e = .returned (.string ⟨(be 2 772).toArray⟩) := fun w1 => rnum_any (w := w1) 772 2 (by omega) (by omega)
  have n51 : ∀ w1 : World, Calls Try.prog 55 #[.int .i64 51, .int .i64 2] w1 fun e w' => Below w1.heap.size w1 w' ∧ e = .returned (.string ⟨(be 2 51).toArray⟩) := fun w1 => rnum_any (w := w1) 51 2 (by omega) (by omega)
  have n29 : ∀ w1 : World, Calls Try.prog 55 #[.int .i64 29, .int .i64 2] w1 fun e w' => Below w1.heap.size w1 w' ∧ e = .returned (.string ⟨(be 2 29).toArray⟩) := fun w1 => rnum_any (w := w1) 29 2 (by omega) (by omega)
  have n771 : ∀ w1 : World, Calls Try.prog 55 #[.int .i64 771, .int .i64 2] w1 fun e w' => Below w1.heap.size w1 w' ∧ e = .returned (.string ⟨(be 2 771).toArray⟩) := fun w1 => rnum_any (w := w1) 771 2 (by omega) (by omega)
  have n4867 : ∀ w1 : World, Calls Try.prog 55 #[.int .i64 4867, .int .i64 2] w1 fun e w' => Below w1.heap.size w1 w' ∧ e = .returned (.string ⟨(be 2 4867).toArray⟩) := fun w1 => rnum_any (w := w1) 4867 2 (by omega) (by omega)
  have l1 : ∀ w1 : World, Calls Try.prog 50 #[.string ⟨(be 2 772).toArray⟩, .int .i64 2] w1 fun e w' => Below w1.heap.size w1 w' ∧ e = .returned (.string ⟨(be 2 (be 2 772).length ++ be 2 772).toArray⟩) := fun w1 => rlist_any (w := w1) (be 2 772) 2 (by omega) (by simp [be_length])
  have hX := shareX_length share
  have hE := extX_length share
  have l2 : ∀ w1 : World, Calls Try.prog 50 #[.string ⟨(shareX share).toArray⟩, .int .i64 2] w1 fun e w' => Below w1.heap.size w1 w' ∧ e = .returned (.string ⟨(be 2 (shareX share).length ++ shareX share).toArray⟩) := fun w1 => rlist_any (w := w1) (shareX share) 2 (by omega) (by omega)
  have l3 : ∀ w1 : World, Calls Try.prog 50 #[.string ⟨ses.toArray⟩, .int .i64 1] w1 fun e w' => Below w1.heap.size w1 w' ∧ e = .returned (.string ⟨(be 1 ses.length ++ ses).toArray⟩) := fun w1 => rlist_any (w := w1) ses 1 (by omega) (by omega)
  have l4 : ∀ w1 : World, Calls Try.prog 50 #[.string ⟨(extX share).toArray⟩, .int .i64 2] w1 fun e w' => Below w1.heap.size w1 w' ∧ e = .returned (.string ⟨(be 2 (extX share).length ++ extX share).toArray⟩) := fun w1 => rlist_any (w := w1) (extX share) 2 (by omega) (by omega)
  have e1 : (⟨(be 2 29).toArray⟩ : ByteArray) ++ ⟨share.toArray⟩ = ⟨(shareX share).toArray⟩ := str_app _ _
  have e2 : (⟨(be 2 43).toArray⟩ : ByteArray) ++ ⟨(be 2 (be 2 772).length ++ be 2 772).toArray⟩ ++ ⟨(be 2 51).toArray⟩ ++ ⟨(be 2 (shareX share).length ++ shareX share).toArray⟩ = ⟨(extX share).toArray⟩ := by
    rw [str_app, str_app, str_app]; unfold extX; simp [be_length]
  have e3 : (⟨(be 2 771).toArray⟩ : ByteArray) ++ ⟨rnd.toArray⟩ ++ ⟨(be 1 ses.length ++ ses).toArray⟩ ++ ⟨(be 2 4867).toArray⟩ ++ ⟨#[0]⟩ ++ ⟨(be 2 (extX share).length ++ extX share).toArray⟩ = ⟨(serverL rnd ses share).toArray⟩ := by
    rw [show (⟨#[0]⟩ : ByteArray) = ⟨[0].toArray⟩ from rfl, str_app, str_app, str_app, str_app, str_app]; unfold serverL; rw [show be 1 0 = [0] from rfl]; simp
  have z1 : (⟨(be 2 29).toArray⟩ : ByteArray).size = 2 := rfl
  have z2 : (⟨share.toArray⟩ : ByteArray).size = share.length := by simp [ByteArray.size]
  have z3 : (⟨(be 2 43).toArray⟩ : ByteArray).size = 2 := rfl
  have z4 : (⟨(be 2 (be 2 772).length ++ be 2 772).toArray⟩ : ByteArray).size = 4 := rfl
  have z5 : (⟨(be 2 51).toArray⟩ : ByteArray).size = 2 := rfl
  have z6 : (⟨(be 2 (shareX share).length ++ shareX share).toArray⟩ : ByteArray).size = 2 + (shareX share).length := by simp [ByteArray.size, be_length]
  have z7 : (⟨(be 2 771).toArray⟩ : ByteArray).size = 2 := rfl
  have z8 : (⟨rnd.toArray⟩ : ByteArray).size = rnd.length := by simp [ByteArray.size]
  have z9 : (⟨(be 1 ses.length ++ ses).toArray⟩ : ByteArray).size = 1 + ses.length := by simp [ByteArray.size, be_length]
  have z10 : (⟨(be 2 4867).toArray⟩ : ByteArray).size = 2 := rfl
  have z11 : (⟨(be 2 (extX share).length ++ extX share).toArray⟩ : ByteArray).size = 2 + (extX share).length := by simp [ByteArray.size, be_length]
  have z12 : (⟨#[0]⟩ : ByteArray).size = 1 := rfl
  generalize hx1 : (⟨(be 2 29).toArray⟩ : ByteArray) = x1 at *
  generalize hx2 : (⟨share.toArray⟩ : ByteArray) = x2 at *
  generalize hx3 : (⟨(be 2 43).toArray⟩ : ByteArray) = x3 at *
  generalize hx4 : (⟨(be 2 (be 2 772).length ++ be 2 772).toArray⟩ : ByteArray) = x4 at *
  generalize hx5 : (⟨(be 2 51).toArray⟩ : ByteArray) = x5 at *
  generalize hx6 : (⟨(be 2 (shareX share).length ++ shareX share).toArray⟩ : ByteArray) = x6 at *
  generalize hx7 : (⟨(be 2 771).toArray⟩ : ByteArray) = x7 at *
  generalize hx8 : (⟨rnd.toArray⟩ : ByteArray) = x8 at *
  generalize hx9 : (⟨(be 1 ses.length ++ ses).toArray⟩ : ByteArray) = x9 at *
  generalize hx10 : (⟨(be 2 4867).toArray⟩ : ByteArray) = x10 at *
  generalize hx11 : (⟨(be 2 (extX share).length ++ extX share).toArray⟩ : ByteArray) = x11 at *
  generalize hx12 : (⟨(shareX share).toArray⟩ : ByteArray) = x12 at *
  generalize hx13 : (⟨(extX share).toArray⟩ : ByteArray) = x13 at *
  generalize hx14 : (⟨(be 2 772).toArray⟩ : ByteArray) = x14 at *
  generalize hx15 : (⟨ses.toArray⟩ : ByteArray) = x15 at *
  have E3 := hid e3
  have n43 := hid n43
  have n772 := hid n772
  have n51 := hid n51
  have n29 := hid n29
  have n771 := hid n771
  have n4867 := hid n4867
  have l1 := hid l1
  have l2 := hid l2
  have l3 := hid l3
  have l4 := hid l4
  have B0 := below_self W
  clear hx1 hx2 hx3 hx4 hx5 hx6 hx7 hx8 hx9 hx10 hx11 hx12 hx13 hx14 hx15 e3
  go_enter Try.func52, Try.ntmps52
  go_wp2_with fail
  refine (n43.out _).mono ?_
  rintro e w1 ⟨b1, rfl⟩
  have B1 := hid (below_to B0.out b1)
  clear b1
  go_wp2_with fail
  refine (n772.out _).mono ?_
  rintro e w2 ⟨b1, rfl⟩
  have B2 := hid (below_to B1.out b1)
  clear b1
  go_wp2_with fail
  refine (l1.out _).mono ?_
  rintro e w3 ⟨b1, rfl⟩
  have B3 := hid (below_to B2.out b1)
  clear b1
  go_wp2_with fail
  refine (n51.out _).mono ?_
  rintro e w4 ⟨b1, rfl⟩
  have B4 := hid (below_to B3.out b1)
  clear b1
  go_wp2_with fail
  refine (n29.out _).mono ?_
  rintro e w5 ⟨b1, rfl⟩
  have B5 := hid (below_to B4.out b1)
  clear b1
  go_wp2_with fail
  refine (l2.out _).mono ?_
  rintro e w6 ⟨b1, rfl⟩
  have B6 := hid (below_to B5.out b1)
  clear b1
  go_wp2_with fail
  refine (n771.out _).mono ?_
  rintro e w7 ⟨b1, rfl⟩
  have B7 := hid (below_to B6.out b1)
  clear b1
  go_wp2_with fail
  refine (l3.out _).mono ?_
  rintro e w8 ⟨b1, rfl⟩
  have B8 := hid (below_to B7.out b1)
  clear b1
  go_wp2_with fail
  refine (n4867.out _).mono ?_
  rintro e w9 ⟨b1, rfl⟩
  have B9 := hid (below_to B8.out b1)
  clear b1
  go_wp2_with fail
  refine (l4.out _).mono ?_
  rintro e w10 ⟨b1, rfl⟩
  have B10 := hid (below_to B9.out b1)
  clear b1
  go_wp2_with fail
  go_ret
  exact ⟨B10.out, by rw [← E3.out]; rfl⟩
end Go.Proofs.Ytliblhfabnjpkaa

namespace Go.Proofs.Ytliblhfabnjpkaa
open Go Go.RowKit
/-- What such a function answers: a text and an error. -/
abbrev Say (W : World) (v : List UInt8 × Int) (e : Ending) (w' : World) : Prop := Below W.heap.size W w' ∧ e = .returned (.tuple #[.string ⟨v.1.toArray⟩, .int .i64 v.2])
def againL : List UInt8 := [207, 33, 173, 116, 229, 154, 97, 17, 190, 29, 140, 2, 30, 101, 184, 145, 194, 162, 17, 22, 122, 187, 140, 94, 7, 158, 9, 226, 200, 168, 51, 156]
def ServerV (rnd ses share : List UInt8) : List UInt8 × Int := if rnd.length = 32 ∧ share.length = 32 ∧ ses.length ≤ 32 then (serverL rnd ses (be 2 share.length ++ share), 0) else ([], 2)
def RetryV (ses : List UInt8) : List UInt8 × Int := if ses.length ≤ 32 then (serverL againL ses [], 0) else ([], 2)
def certL (der : List UInt8) : List UInt8 := be 3 der.length ++ der ++ [0, 0]
def CertV (der : List UInt8) : List UInt8 × Int := if 1 ≤ der.length ∧ der.length ≤ 16375 then ([0] ++ be 3 (certL der).length ++ certL der, 0) else ([], 2)
def VerifyV (sig : List UInt8) : List UInt8 × Int := if sig.length = 64 then (be 2 2055 ++ be 2 sig.length ++ sig, 0) else ([], 2)
theorem again_any (W : World) : Calls Try.prog 53 #[] W fun e w' => w' = W ∧ e = .returned (.string ⟨againL.toArray⟩) := by
  go_enter Try.func53, Try.ntmps53
  go_wp2_with fail
  go_ret
  exact ⟨rfl, rfl⟩
set_option maxHeartbeats 4000000 in
theorem Server_no (rnd ses share : List UInt8) (W : World) (h : ¬ (rnd.length = 32 ∧ share.length = 32 ∧ ses.length ≤ 32)) :
    Calls Try.prog 21 #[.string ⟨rnd.toArray⟩, .string ⟨ses.toArray⟩, .string ⟨share.toArray⟩] W (Say W ([], 2)) := by
  have s1 : (⟨rnd.toArray⟩ : ByteArray).size = rnd.length := by simp [ByteArray.size]
  have s2 : (⟨ses.toArray⟩ : ByteArray).size = ses.length := by simp [ByteArray.size]
  have s3 : (⟨share.toArray⟩ : ByteArray).size = share.length := by simp [ByteArray.size]
  obtain ⟨R, hR⟩ : ∃ T, (⟨rnd.toArray⟩ : ByteArray) = T := ⟨_, rfl⟩
  obtain ⟨S, hS⟩ : ∃ T, (⟨ses.toArray⟩ : ByteArray) = T := ⟨_, rfl⟩
  obtain ⟨X, hX⟩ : ∃ T, (⟨share.toArray⟩ : ByteArray) = T := ⟨_, rfl⟩
  rw [hR] at s1 ⊢
  rw [hS] at s2 ⊢
  rw [hX] at s3 ⊢
  clear hR hS hX
  generalize rnd.length = r at *
  generalize ses.length = s at *
  generalize share.length = x at *
  by_cases h1 : r = 32
  · by_cases h2 : x = 32
    · have d1 : decide ((32 : Int) < (s : Int)) = true := decide_eq_true (by omega)
      subst h1 h2
      clear h
      go_enter Try.func21, Try.ntmps21
      go_wp2_with fail
      go_ret2
      exact ⟨Below.refl _ _, rfl⟩
    · have d1 : decide ((x : Int) = 32) = false := decide_eq_false (by omega)
      subst h1
      clear h
      go_enter Try.func21, Try.ntmps21
      go_wp2_with fail
      go_ret2
      exact ⟨Below.refl _ _, rfl⟩
  · have d1 : decide ((r : Int) = 32) = false := decide_eq_false (by omega)
    clear h
    go_enter Try.func21, Try.ntmps21
    go_wp2_with fail
    go_ret2
    exact ⟨Below.refl _ _, rfl⟩
set_option maxHeartbeats 4000000 in
theorem Server_yes (rnd ses share : List UInt8) (W : World) (h1 : rnd.length = 32) (h2 : share.length = 32) (h3 : ses.length ≤ 32) :
    Calls Try.prog 21 #[.string ⟨rnd.toArray⟩, .string ⟨ses.toArray⟩, .string ⟨share.toArray⟩] W (Say W (serverL rnd ses (be 2 share.length ++ share), 0)) := by
  have s1 : (⟨rnd.toArray⟩ : ByteArray).size = 32 := by simp [ByteArray.size, h1]
  have s2 : (⟨ses.toArray⟩ : ByteArray).size = ses.length := by simp [ByteArray.size]
  have s3 : (⟨share.toArray⟩ : ByteArray).size = 32 := by simp [ByteArray.size, h2]
  have d1 : decide ((32 : Int) < (ses.length : Int)) = false := decide_eq_false (by omega)
  have hb0 := below_new (w := W) (.cells #[] 5)
  have hl : Calls Try.prog 49 #[.slice (some ⟨W.heap.size, 0, none⟩) 0 0, .int .i64 2, .string ⟨share.toArray⟩] (W.alloc (.cells #[] 5)) _ := blist_any (w := W.alloc (.cells #[] 5)) (B := W.heap.size) _ [] 2 share (by omega) (owns_none W) (fun g e => by have e := Option.some.inj e; exact Nat.le_of_eq e) hb0.size (by simp) (by omega)
  have hsv : ∀ w1 : World, Calls Try.prog 51 #[.string ⟨rnd.toArray⟩, .string ⟨ses.toArray⟩, .string ⟨(be 2 share.length ++ share).toArray⟩] w1 _ := fun w1 => server_any rnd ses (be 2 share.length ++ share) w1 (by omega) (by omega) (by simp [be_length]; omega)
  obtain ⟨R, hR⟩ : ∃ T, (⟨rnd.toArray⟩ : ByteArray) = T := ⟨_, rfl⟩
  obtain ⟨S, hS⟩ : ∃ T, (⟨ses.toArray⟩ : ByteArray) = T := ⟨_, rfl⟩
  obtain ⟨X, hX⟩ : ∃ T, (⟨share.toArray⟩ : ByteArray) = T := ⟨_, rfl⟩
  rw [hR] at s1 hsv ⊢
  rw [hS] at s2 hsv ⊢
  rw [hX] at s3 hl ⊢
  obtain ⟨Y, hY⟩ : ∃ T, (be 2 share.length ++ share) = T := ⟨_, rfl⟩
  have hYl : 0 < Y.length := by rw [← hY]; simp [be_length]; omega
  rw [List.nil_append, hY] at hl
  rw [hY] at hsv ⊢
  have HL := hid hl
  have HS := hid hsv
  have H0 := hid hb0
  clear hl hsv hb0 hY hX hR hS
  go_enter Try.func21, Try.ntmps21
  go_wp2_with fail
  refine HL.out.mono ?_
  rintro e w1 ⟨b1, v, rfl, hown, -⟩
  have hcv := conv_hb hown hYl
  have B1 := hid (H0.out.trans b1)
  clear b1 hown H0 HL
  go_wp2_with fail
  refine (HS.out _).mono ?_
  rintro e w2 ⟨b2, rfl⟩
  have B2 := hid (below_to B1.out b2)
  clear b2 HS B1
  go_wp2_with fail
  go_ret2
  exact ⟨B2.out, rfl⟩
theorem Server_any (rnd ses share : List UInt8) (W : World) : Calls Try.prog 21 #[.string ⟨rnd.toArray⟩, .string ⟨ses.toArray⟩, .string ⟨share.toArray⟩] W (Say W (ServerV rnd ses share)) := by
  by_cases h : rnd.length = 32 ∧ share.length = 32 ∧ ses.length ≤ 32
  · rw [show ServerV rnd ses share = _ from if_pos h]; exact Server_yes rnd ses share W h.1 h.2.1 h.2.2
  · rw [show ServerV rnd ses share = _ from if_neg h]; exact Server_no rnd ses share W h
set_option maxHeartbeats 4000000 in
theorem rServer_no (rnd ses share : List UInt8) (W : World) (h : ¬ (rnd.length = 32 ∧ share.length = 32 ∧ ses.length ≤ 32)) :
    Calls Try.prog 22 #[.string ⟨rnd.toArray⟩, .string ⟨ses.toArray⟩, .string ⟨share.toArray⟩] W (Say W ([], 2)) := by
  have s1 : (⟨rnd.toArray⟩ : ByteArray).size = rnd.length := by simp [ByteArray.size]
  have s2 : (⟨ses.toArray⟩ : ByteArray).size = ses.length := by simp [ByteArray.size]
  have s3 : (⟨share.toArray⟩ : ByteArray).size = share.length := by simp [ByteArray.size]
  obtain ⟨R, hR⟩ : ∃ T, (⟨rnd.toArray⟩ : ByteArray) = T := ⟨_, rfl⟩
  obtain ⟨S, hS⟩ : ∃ T, (⟨ses.toArray⟩ : ByteArray) = T := ⟨_, rfl⟩
  obtain ⟨X, hX⟩ : ∃ T, (⟨share.toArray⟩ : ByteArray) = T := ⟨_, rfl⟩
  rw [hR] at s1 ⊢
  rw [hS] at s2 ⊢
  rw [hX] at s3 ⊢
  clear hR hS hX
  generalize rnd.length = r at *
  generalize ses.length = s at *
  generalize share.length = x at *
  by_cases h1 : r = 32
  · by_cases h2 : x = 32
    · have d1 : decide ((32 : Int) < (s : Int)) = true := decide_eq_true (by omega)
      subst h1 h2
      clear h
      go_enter Try.func22, Try.ntmps22
      go_wp2_with fail
      go_ret2
      exact ⟨Below.refl _ _, rfl⟩
    · have d1 : decide ((x : Int) = 32) = false := decide_eq_false (by omega)
      subst h1
      clear h
      go_enter Try.func22, Try.ntmps22
      go_wp2_with fail
      go_ret2
      exact ⟨Below.refl _ _, rfl⟩
  · have d1 : decide ((r : Int) = 32) = false := decide_eq_false (by omega)
    clear h
    go_enter Try.func22, Try.ntmps22
    go_wp2_with fail
    go_ret2
    exact ⟨Below.refl _ _, rfl⟩
set_option maxHeartbeats 4000000 in
theorem rServer_yes (rnd ses share : List UInt8) (W : World) (h1 : rnd.length = 32) (h2 : share.length = 32) (h3 : ses.length ≤ 32) :
    Calls Try.prog 22 #[.string ⟨rnd.toArray⟩, .string ⟨ses.toArray⟩, .string ⟨share.toArray⟩] W (Say W (serverL rnd ses (be 2 share.length ++ share), 0)) := by
  have s1 : (⟨rnd.toArray⟩ : ByteArray).size = 32 := by simp [ByteArray.size, h1]
  have s2 : (⟨ses.toArray⟩ : ByteArray).size = ses.length := by simp [ByteArray.size]
  have s3 : (⟨share.toArray⟩ : ByteArray).size = 32 := by simp [ByteArray.size, h2]
  have d1 : decide ((32 : Int) < (ses.length : Int)) = false := decide_eq_false (by omega)
  have hl : Calls Try.prog 50 #[.string ⟨share.toArray⟩, .int .i64 2] W _ := rlist_any (w := W) share 2 (by omega) (by omega)
  have hsv : ∀ w1 : World, Calls Try.prog 52 #[.string ⟨rnd.toArray⟩, .string ⟨ses.toArray⟩, .string ⟨(be 2 share.length ++ share).toArray⟩] w1 _ := fun w1 => rserver_any rnd ses (be 2 share.length ++ share) w1 (by omega) (by omega) (by simp [be_length]; omega)
  obtain ⟨R, hR⟩ : ∃ T, (⟨rnd.toArray⟩ : ByteArray) = T := ⟨_, rfl⟩
  obtain ⟨S, hS⟩ : ∃ T, (⟨ses.toArray⟩ : ByteArray) = T := ⟨_, rfl⟩
  obtain ⟨X, hX⟩ : ∃ T, (⟨share.toArray⟩ : ByteArray) = T := ⟨_, rfl⟩
  rw [hR] at s1 hsv ⊢
  rw [hS] at s2 hsv ⊢
  rw [hX] at s3 hl ⊢
  obtain ⟨Y, hY⟩ : ∃ T, (be 2 share.length ++ share) = T := ⟨_, rfl⟩
  rw [hY] at hl hsv ⊢
  have HL := hid hl
  have HS := hid hsv
  clear hl hsv hY hX hR hS
  go_enter Try.func22, Try.ntmps22
  go_wp2_with fail
  refine HL.out.mono ?_
  rintro e w1 ⟨b1, rfl⟩
  have B1 := hid b1
  clear b1 HL
  go_wp2_with fail
  refine (HS.out _).mono ?_
  rintro e w2 ⟨b2, rfl⟩
  have B2 := hid (below_to B1.out b2)
  clear b2 HS B1
  go_wp2_with fail
  go_ret2
  exact ⟨B2.out, rfl⟩
theorem rServer_any (rnd ses share : List UInt8) (W : World) : Calls Try.prog 22 #[.string ⟨rnd.toArray⟩, .string ⟨ses.toArray⟩, .string ⟨share.toArray⟩] W (Say W (ServerV rnd ses share)) := by
  by_cases h : rnd.length = 32 ∧ share.length = 32 ∧ ses.length ≤ 32
  · rw [show ServerV rnd ses share = _ from if_pos h]; exact rServer_yes rnd ses share W h.1 h.2.1 h.2.2
  · rw [show ServerV rnd ses share = _ from if_neg h]; exact rServer_no rnd ses share W h
set_option maxHeartbeats 4000000 in
theorem Retry_any (ses : List UInt8) (W : World) : Calls Try.prog 23 #[.string ⟨ses.toArray⟩] W (Say W (RetryV ses)) := by
  have s2 : (⟨ses.toArray⟩ : ByteArray).size = ses.length := by simp [ByteArray.size]
  by_cases h : ses.length ≤ 32
  · rw [show RetryV ses = _ from if_pos h]
    have d1 : decide ((32 : Int) < (ses.length : Int)) = false := decide_eq_false (by omega)
    have hsv : Calls Try.prog 51 #[.string ⟨#[207, 33, 173, 116, 229, 154, 97, 17, 190, 29, 140, 2, 30, 101, 184, 145, 194, 162, 17, 22, 122, 187, 140, 94, 7, 158, 9, 226, 200, 168, 51, 156]⟩, .string ⟨ses.toArray⟩, .string ⟨#[]⟩] W _ := server_any againL ses [] W (by decide) (by omega) (by decide)
    obtain ⟨S, hS⟩ : ∃ T, (⟨ses.toArray⟩ : ByteArray) = T := ⟨_, rfl⟩
    rw [hS] at s2 hsv ⊢
    have HS := hid hsv
    clear hS hsv
    go_enter Try.func23, Try.ntmps23
    go_wp2_with fail
    refine HS.out.mono ?_
    rintro e w1 ⟨b1, rfl⟩
    have B1 := hid b1
    clear b1 HS
    go_wp2_with fail
    go_ret2
    exact ⟨B1.out, rfl⟩
  · rw [show RetryV ses = _ from if_neg h]
    have d1 : decide ((32 : Int) < (ses.length : Int)) = true := decide_eq_true (by omega)
    obtain ⟨S, hS⟩ : ∃ T, (⟨ses.toArray⟩ : ByteArray) = T := ⟨_, rfl⟩
    rw [hS] at s2 ⊢
    clear hS
    go_enter Try.func23, Try.ntmps23
    go_wp2_with fail
    go_ret2
    exact ⟨Below.refl _ _, rfl⟩
set_option maxHeartbeats 4000000 in
theorem rRetry_any (ses : List UInt8) (W : World) : Calls Try.prog 24 #[.string ⟨ses.toArray⟩] W (Say W (RetryV ses)) := by
  have s2 : (⟨ses.toArray⟩ : ByteArray).size = ses.length := by simp [ByteArray.size]
  by_cases h : ses.length ≤ 32
  · rw [show RetryV ses = _ from if_pos h]
    have d1 : decide ((32 : Int) < (ses.length : Int)) = false := decide_eq_false (by omega)
    have hag := again_any W
    have hsv : Calls Try.prog 52 #[.string ⟨againL.toArray⟩, .string ⟨ses.toArray⟩, .string ⟨#[]⟩] W _ := rserver_any againL ses [] W (by decide) (by omega) (by decide)
    obtain ⟨S, hS⟩ : ∃ T, (⟨ses.toArray⟩ : ByteArray) = T := ⟨_, rfl⟩
    rw [hS] at s2 hsv ⊢
    obtain ⟨A, hA⟩ : ∃ T, (⟨againL.toArray⟩ : ByteArray) = T := ⟨_, rfl⟩
    rw [hA] at hag hsv
    have HS := hid hsv
    have HA := hid hag
    clear hS hsv hA hag
    go_enter Try.func24, Try.ntmps24
    go_wp2_with fail
    refine HA.out.mono ?_
    rintro e _ ⟨rfl, rfl⟩
    go_wp2_with fail
    refine HS.out.mono ?_
    rintro e w1 ⟨b1, rfl⟩
    have B1 := hid b1
    clear b1 HS HA
    go_wp2_with fail
    go_ret2
    exact ⟨B1.out, rfl⟩
  · rw [show RetryV ses = _ from if_neg h]
    have d1 : decide ((32 : Int) < (ses.length : Int)) = true := decide_eq_true (by omega)
    obtain ⟨S, hS⟩ : ∃ T, (⟨ses.toArray⟩ : ByteArray) = T := ⟨_, rfl⟩
    rw [hS] at s2 ⊢
    clear hS
    go_enter Try.func24, Try.ntmps24
    go_wp2_with fail
    go_ret2
    exact ⟨Below.refl _ _, rfl⟩
end Go.Proofs.Ytliblhfabnjpkaa

namespace Go.Proofs.Ytliblhfabnjpkaa
open Go Go.RowKit
set_option maxHeartbeats 4000000 in
theorem Verify_any (sig : List UInt8) (W : World) : Calls Try.prog 27 #[.string ⟨sig.toArray⟩] W (Say W (VerifyV sig)) := by
  have s2 : (⟨sig.toArray⟩ : ByteArray).size = sig.length := by simp [ByteArray.size]
  by_cases h : sig.length = 64
  · rw [show VerifyV sig = _ from if_pos h]
    have hb0 := below_new (w := W) (.cells #[] 5)
    have k1 : Calls Try.prog 54 #[.slice (some ⟨W.heap.size, 0, none⟩) 0 0, .int .u64 2055, .int .i64 2] (W.alloc (.cells #[] 5)) _ := bnum_any (w := W.alloc (.cells #[] 5)) (B := W.heap.size) _ [] 2055 2 (by omega) (owns_none W) (fun g e => by have e := Option.some.inj e; exact Nat.le_of_eq e) hb0.size (by simp)
    have k2 : ∀ w' v l, OwnsQ w' v l → (∀ g, v.ownBlock = some g → W.heap.size ≤ g) → W.heap.size ≤ w'.heap.size → l.length ≤ 100 → Calls Try.prog 49 #[v, .int .i64 2, .string ⟨sig.toArray⟩] w' _ := fun w' v l h1 h2 h3 h4 => blist_any (w := w') (B := W.heap.size) v l 2 sig (by omega) h1 h2 h3 (by omega) (by omega)
    rw [h] at s2
    obtain ⟨S, hS⟩ : ∃ T, (⟨sig.toArray⟩ : ByteArray) = T := ⟨_, rfl⟩
    rw [hS] at s2 ⊢
    simp only [hS] at k2
    have K1 := hid k1
    have K2 := hid k2
    have H0 := hid hb0
    clear k1 k2 hS hb0
    go_enter Try.func27, Try.ntmps27
    go_wp2_with fail
    refine K1.out.mono ?_
    rintro e w1 ⟨b1, v1, rfl, o1, g1⟩
    have B1 := hid (H0.out.trans b1)
    have k2 := K2.out w1 v1 _ o1 g1 B1.out.size (by simp [be_length])
    rw [List.nil_append] at k2
    have K3 := hid k2
    clear b1 o1 g1 K1 K2 H0 k2
    go_wp2_with fail
    refine K3.out.mono ?_
    rintro e w2 ⟨b2, v2, rfl, o2, -⟩
    have B2 := hid (B1.out.trans b2)
    have hcv := conv_hb o2 (by simp [be_length]; omega)
    clear b2 o2 K3 B1
    obtain ⟨Y, hY⟩ : ∃ T, (be 2 2055 ++ be 2 sig.length ++ sig) = T := ⟨_, rfl⟩
    rw [hY] at hcv
    have HY := hid hY
    clear hY
    go_wp2_with fail
    go_ret2
    exact ⟨B2.out, by rw [HY.out]; rfl⟩
  · rw [show VerifyV sig = _ from if_neg h]
    have d1 : decide ((sig.length : Int) = 64) = false := decide_eq_false (by omega)
    obtain ⟨S, hS⟩ : ∃ T, (⟨sig.toArray⟩ : ByteArray) = T := ⟨_, rfl⟩
    rw [hS] at s2 ⊢
    clear hS
    go_enter Try.func27, Try.ntmps27
    go_wp2_with fail
    go_ret2
    exact ⟨Below.refl _ _, rfl⟩
set_option maxHeartbeats 4000000 in
theorem rVerify_any (sig : List UInt8) (W : World) : Calls Try.prog 28 #[.string ⟨sig.toArray⟩] W (Say W (VerifyV sig)) := by
  have s2 : (⟨sig.toArray⟩ : ByteArray).size = sig.length := by simp [ByteArray.size]
  by_cases h : sig.length = 64
  · rw [show VerifyV sig = _ from if_pos h]
    have n1 : Calls Try.prog 55 #[.int .i64 2055, .int .i64 2] W fun e w' => Below W.heap.size W w' ∧ e = .returned (.string ⟨(be 2 2055).toArray⟩) := rnum_any (w := W) 2055 2 (by omega) (by omega)
    have k2 : ∀ w1 : World, Calls Try.prog 50 #[.string ⟨sig.toArray⟩, .int .i64 2] w1 fun e w' => Below w1.heap.size w1 w' ∧ e = .returned (.string ⟨(be 2 sig.length ++ sig).toArray⟩) := fun w1 => rlist_any (w := w1) sig 2 (by omega) (by omega)
    have e3 : (⟨(be 2 2055).toArray⟩ : ByteArray) ++ ⟨(be 2 sig.length ++ sig).toArray⟩ = ⟨(be 2 2055 ++ be 2 sig.length ++ sig).toArray⟩ := by rw [str_app]; simp
    have z1 : (⟨(be 2 2055).toArray⟩ : ByteArray).size = 2 := rfl
    have z2 : (⟨(be 2 sig.length ++ sig).toArray⟩ : ByteArray).size = 66 := by simp [ByteArray.size, be_length, h]
    rw [h] at s2
    generalize (⟨(be 2 2055).toArray⟩ : ByteArray) = x1 at *
    generalize (⟨(be 2 sig.length ++ sig).toArray⟩ : ByteArray) = x2 at *
    obtain ⟨S, hS⟩ : ∃ T, (⟨sig.toArray⟩ : ByteArray) = T := ⟨_, rfl⟩
    rw [hS] at s2 ⊢
    simp only [hS] at k2
    have K1 := hid n1
    have K2 := hid k2
    have E3 := hid e3
    clear n1 k2 hS e3
    go_enter Try.func28, Try.ntmps28
    go_wp2_with fail
    refine K1.out.mono ?_
    rintro e w1 ⟨b1, rfl⟩
    have B1 := hid b1
    clear b1 K1
    go_wp2_with fail
    refine (K2.out _).mono ?_
    rintro e w2 ⟨b2, rfl⟩
    have B2 := hid (below_to B1.out b2)
    clear b2 K2 B1
    go_wp2_with fail
    go_ret2
    exact ⟨B2.out, by rw [← E3.out]; rfl⟩
  · rw [show VerifyV sig = _ from if_neg h]
    have d1 : decide ((sig.length : Int) = 64) = false := decide_eq_false (by omega)
    obtain ⟨S, hS⟩ : ∃ T, (⟨sig.toArray⟩ : ByteArray) = T := ⟨_, rfl⟩
    rw [hS] at s2 ⊢
    clear hS
    go_enter Try.func28, Try.ntmps28
    go_wp2_with fail
    go_ret2
    exact ⟨Below.refl _ _, rfl⟩
set_option maxHeartbeats 4000000 in
theorem Cert_any (der : List UInt8) (W : World) : Calls Try.prog 25 #[.string ⟨der.toArray⟩] W (Say W (CertV der)) := by
  have s2 : (⟨der.toArray⟩ : ByteArray).size = der.length := by simp [ByteArray.size]
  by_cases h : 1 ≤ der.length ∧ der.length ≤ 16375
  · rw [show CertV der = _ from if_pos h]
    obtain ⟨h1, h2⟩ := h
    have d1 : decide ((der.length : Int) < 1) = false := decide_eq_false (by omega)
    have d2 : decide ((16375 : Int) < (der.length : Int)) = false := decide_eq_false (by omega)
    have hb1 := below_new (w := W) (.cells #[.int .u8 0] 5)
    have hb0 := below_alloc hb1 (.cells #[] 5)
    have ho1 : OwnsQ (W.alloc (.cells #[.int .u8 0] 5)) (.slice (some ⟨W.heap.size, 0, none⟩) 1 1) [0] := owns_one W 0
    have hsz : (W.alloc (.cells #[.int .u8 0] 5)).heap.size = W.heap.size + 1 := by simp
    have ho0 := owns_none (W.alloc (.cells #[.int .u8 0] 5))
    have hbn := below_new (w := W.alloc (.cells #[.int .u8 0] 5)) (.cells #[] 5)
    rw [hsz] at ho0 hbn
    have k1 : Calls Try.prog 49 #[.slice (some ⟨W.heap.size + 1, 0, none⟩) 0 0, .int .i64 3, .string ⟨der.toArray⟩] ((W.alloc (.cells #[.int .u8 0] 5)).alloc (.cells #[] 5)) _ := blist_any (w := (W.alloc (.cells #[.int .u8 0] 5)).alloc (.cells #[] 5)) (B := W.heap.size + 1) _ [] 3 der (by omega) ho0 (fun g e => by have e := Option.some.inj e; exact Nat.le_of_eq e) (by have h := hbn.size; rw [hsz] at h; exact h) (by simp) (by omega)
    have k2 : ∀ w' v l, OwnsQ w' v l → (∀ g, v.ownBlock = some g → W.heap.size + 1 ≤ g) → W.heap.size + 1 ≤ w'.heap.size → l.length ≤ 100000 → Calls Try.prog 49 #[v, .int .i64 2, .string ⟨#[]⟩] w' _ := fun w' v l h1 h2 h3 h4 => blist_any (w := w') (B := W.heap.size + 1) v l 2 [] (by omega) h1 h2 h3 (by omega) (by simp)
    have hb3 := below_new (w := W) (.cells #[.int .u8 0] 5)
    obtain ⟨S, hS⟩ : ∃ T, (⟨der.toArray⟩ : ByteArray) = T := ⟨_, rfl⟩
    rw [hS] at s2 k1 ⊢
    have K1 := hid k1
    have K2 := hid k2
    have H0 := hid hb0
    have HN := hid hbn
    have O1 := hid ho1
    have HSZ := hid hsz
    clear k1 k2 hS hb0 hb1 hb3 ho1 ho0 hbn hsz
    go_enter Try.func25, Try.ntmps25
    go_wp2_with fail
    refine K1.out.mono ?_
    rintro e w1 ⟨b1, v1, rfl, o1, g1⟩
    have B1 := hid (HN.out.trans b1)
    have C1 := hid (H0.out.trans (b1.mono (Nat.le_succ _)))
    have k2 := K2.out w1 v1 _ o1 g1 (by have h := B1.out.size; rw [HSZ.out] at h; exact h) (by simp [be_length]; omega)
    have K3 := hid k2
    clear b1 o1 g1 K1 K2 H0 k2
    go_wp2_with fail
    refine K3.out.mono ?_
    rintro e w2 ⟨b2, v2, rfl, o2, -⟩
    have B2 := B1.out.trans b2
    have C2 := hid (C1.out.trans (b2.mono (Nat.le_succ _)))
    rw [show [] ++ be 3 der.length ++ der ++ be 2 [].length ++ [] = certL der by rw [certL]; simp; rfl] at o2
    have hcl : (certL der).length = 3 + der.length + 2 := by simp [certL, be_length]; omega
    have O2 := O1.out.keep (w' := w2) fun g o hg ho => (B2.block g (by have e := Option.some.inj hg; change W.heap.size = g at e; omega)).trans ho
    have k4 : Calls Try.prog 49 #[.slice (some ⟨W.heap.size, 0, none⟩) 1 1, .int .i64 3, .string ⟨(certL der).toArray⟩] w2 _ := blist_any (w := w2) (B := W.heap.size) _ [0] 3 (certL der) (by omega) O2 (fun g e => by have e := Option.some.inj e; exact Nat.le_of_eq e) C2.out.size (by simp) (by omega)
    have hcv := conv_hb o2 (by omega)
    obtain ⟨Y, hY⟩ : ∃ T, (⟨(certL der).toArray⟩ : ByteArray) = T := ⟨_, rfl⟩
    rw [hY] at hcv k4
    have K4 := hid k4
    clear b2 o2 K3 B1 C1 B2 k4 hY O1 O2 HN
    go_wp2_with fail
    refine K4.out.mono ?_
    rintro e w3 ⟨b3, v3, rfl, o3, -⟩
    have C3 := hid (C2.out.trans b3)
    have hcw := conv_hb o3 (by simp [be_length])
    clear b3 o3 K4 C2 hcv
    obtain ⟨Z, hZ⟩ : ∃ T, (0 :: (be 3 (certL der).length ++ certL der)) = T := ⟨_, rfl⟩
    rw [show [0] ++ be 3 (certL der).length ++ certL der = Z from hZ] at hcw
    have HZ := hid hZ
    clear hZ
    go_wp2_with fail
    go_ret2
    exact ⟨C3.out, by rw [HZ.out]; rfl⟩
  · rw [show CertV der = _ from if_neg h]
    by_cases h1 : der.length < 1
    · have d1 : decide ((der.length : Int) < 1) = true := decide_eq_true (by omega)
      clear h
      obtain ⟨S, hS⟩ : ∃ T, (⟨der.toArray⟩ : ByteArray) = T := ⟨_, rfl⟩
      rw [hS] at s2 ⊢
      clear hS
      go_enter Try.func25, Try.ntmps25
      go_wp2_with fail
      go_ret2
      exact ⟨Below.refl _ _, rfl⟩
    · have d1 : decide ((der.length : Int) < 1) = false := decide_eq_false (by omega)
      have d2 : decide ((16375 : Int) < (der.length : Int)) = true := decide_eq_true (by omega)
      clear h
      obtain ⟨S, hS⟩ : ∃ T, (⟨der.toArray⟩ : ByteArray) = T := ⟨_, rfl⟩
      rw [hS] at s2 ⊢
      clear hS
      go_enter Try.func25, Try.ntmps25
      go_wp2_with fail
      go_ret2
      exact ⟨Below.refl _ _, rfl⟩
set_option maxHeartbeats 4000000 in
theorem rCert_any (der : List UInt8) (W : World) : Calls Try.prog 26 #[.string ⟨der.toArray⟩] W (Say W (CertV der)) := by
  have s2 : (⟨der.toArray⟩ : ByteArray).size = der.length := by simp [ByteArray.size]
  by_cases h : 1 ≤ der.length ∧ der.length ≤ 16375
  · rw [show CertV der = _ from if_pos h]
    obtain ⟨h1, h2⟩ := h
    have d1 : decide ((der.length : Int) < 1) = false := decide_eq_false (by omega)
    have d2 : decide ((16375 : Int) < (der.length : Int)) = false := decide_eq_false (by omega)
    have hcl : (certL der).length = 3 + der.length + 2 := by simp [certL, be_length]; omega
    have k1 : Calls Try.prog 50 #[.string ⟨der.toArray⟩, .int .i64 3] W fun e w' => Below W.heap.size W w' ∧ e = .returned (.string ⟨(be 3 der.length ++ der).toArray⟩) := rlist_any (w := W) der 3 (by omega) (by omega)
    have k2 : ∀ w1 : World, Calls Try.prog 50 #[.string ⟨(certL der).toArray⟩, .int .i64 3] w1 fun e w' => Below w1.heap.size w1 w' ∧ e = .returned (.string ⟨(be 3 (certL der).length ++ certL der).toArray⟩) := fun w1 => rlist_any (w := w1) (certL der) 3 (by omega) (by omega)
    have e2 : (⟨(be 3 der.length ++ der).toArray⟩ : ByteArray) ++ ⟨#[0, 0]⟩ = ⟨(certL der).toArray⟩ := by rw [show (⟨#[0, 0]⟩ : ByteArray) = ⟨[0, 0].toArray⟩ from rfl, str_app]; rfl
    have e3 : (⟨#[0]⟩ : ByteArray) ++ ⟨(be 3 (certL der).length ++ certL der).toArray⟩ = ⟨(0 :: (be 3 (certL der).length ++ certL der)).toArray⟩ := by rw [show (⟨#[0]⟩ : ByteArray) = ⟨[0].toArray⟩ from rfl, str_app]; rfl
    have z1 : (⟨(be 3 der.length ++ der).toArray⟩ : ByteArray).size = 3 + der.length := by simp [ByteArray.size, be_length]
    have z2 : (⟨(be 3 (certL der).length ++ certL der).toArray⟩ : ByteArray).size = 8 + der.length := by simp [ByteArray.size, be_length, hcl]; omega
    have z3 : (⟨#[0, 0]⟩ : ByteArray).size = 2 := rfl
    have z4 : (⟨#[0]⟩ : ByteArray).size = 1 := rfl
    obtain ⟨x1, hx1⟩ : ∃ T, (⟨(be 3 der.length ++ der).toArray⟩ : ByteArray) = T := ⟨_, rfl⟩
    obtain ⟨x2, hx2⟩ : ∃ T, (⟨(be 3 (certL der).length ++ certL der).toArray⟩ : ByteArray) = T := ⟨_, rfl⟩
    obtain ⟨x3, hx3⟩ : ∃ T, (⟨(certL der).toArray⟩ : ByteArray) = T := ⟨_, rfl⟩
    rw [hx1] at k1 e2 z1
    rw [hx2] at e3 z2
    rw [hx3] at e2
    simp only [hx2, hx3] at k2
    obtain ⟨S, hS⟩ : ∃ T, (⟨der.toArray⟩ : ByteArray) = T := ⟨_, rfl⟩
    rw [hS] at s2 k1 ⊢
    have K1 := hid k1
    have K2 := hid k2
    have E3 := hid e3
    clear k1 k2 hS e3 hx1 hx2 hx3 hcl
    go_enter Try.func26, Try.ntmps26
    go_wp2_with fail
    refine K1.out.mono ?_
    rintro e w1 ⟨b1, rfl⟩
    have B1 := hid b1
    clear b1 K1
    go_wp2_with fail
    refine (K2.out _).mono ?_
    rintro e w2 ⟨b2, rfl⟩
    have B2 := hid (below_to B1.out b2)
    clear b2 K2 B1
    go_wp2_with fail
    go_ret2
    exact ⟨B2.out, by rw [← E3.out]; rfl⟩
  · rw [show CertV der = _ from if_neg h]
    by_cases h1 : der.length < 1
    · have d1 : decide ((der.length : Int) < 1) = true := decide_eq_true (by omega)
      clear h
      obtain ⟨S, hS⟩ : ∃ T, (⟨der.toArray⟩ : ByteArray) = T := ⟨_, rfl⟩
      rw [hS] at s2 ⊢
      clear hS
      go_enter Try.func26, Try.ntmps26
      go_wp2_with fail
      go_ret2
      exact ⟨Below.refl _ _, rfl⟩
    · have d1 : decide ((der.length : Int) < 1) = false := decide_eq_false (by omega)
      have d2 : decide ((16375 : Int) < (der.length : Int)) = true := decide_eq_true (by omega)
      clear h
      obtain ⟨S, hS⟩ : ∃ T, (⟨der.toArray⟩ : ByteArray) = T := ⟨_, rfl⟩
      rw [hS] at s2 ⊢
      clear hS
      go_enter Try.func26, Try.ntmps26
      go_wp2_with fail
      go_ret2
      exact ⟨Below.refl _ _, rfl⟩
end Go.Proofs.Ytliblhfabnjpkaa

namespace Go.Proofs.Ytliblhfabnjpkaa
open Go.RowKit Go.Deep
theorem list_of (b : ByteArray) : ∃ l : List UInt8, b = ⟨l.toArray⟩ ∧ b.size = l.length := ⟨b.data.toList, by cases b; simp, by cases b; simp [ByteArray.size]⟩
set_option maxRecDepth 100000 in
set_option maxHeartbeats 4000000 in
theorem lsays_any (r s x d g : ByteArray) (W : World) (br : r.size ≤ 140737488351232) (bs : s.size ≤ 140737488351232) (bx : x.size ≤ 140737488351232) (bg : g.size ≤ 140737488351232) :
    Calls Try.prog 7 #[.string r, .string s, .string x, .string d, .string g] W fun e w' => e = .returned (.bool true) ∧ Below W.heap.size W w' := by
  have hA := hid fun w : World => alive_any (W := w)
  obtain ⟨lr, er, -⟩ := list_of r
  obtain ⟨ls, es, -⟩ := list_of s
  obtain ⟨lx, ex, -⟩ := list_of x
  obtain ⟨ld, ed, -⟩ := list_of d
  obtain ⟨lg, eg, -⟩ := list_of g
  have h1 := fun w => Server_any lr ls lx w
  have h2 := fun w => rServer_any lr ls lx w
  have h3 := fun w => Retry_any ls w
  have h4 := fun w => rRetry_any ls w
  have h5 := fun w => Cert_any ld w
  have h6 := fun w => rCert_any ld w
  have h7 := fun w => Verify_any lg w
  have h8 := fun w => rVerify_any lg w
  simp only [← er, ← es, ← ex, ← ed, ← eg] at h1 h2 h3 h4 h5 h6 h7 h8
  clear er es ex ed eg
  have hS : ∀ (f : Nat) (a : Array Value) (v : List UInt8 × Int), (∀ w, Calls Try.prog f a w (Say w v)) → ∀ w, Calls Try.prog f a w fun e w' => Below w.heap.size w w' ∧ e = .returned (.tuple #[.string ⟨v.1.toArray⟩, .int .i64 v.2]) := fun _ _ _ h => h
  replace h1 := hS _ _ _ h1
  replace h2 := hS _ _ _ h2
  replace h3 := hS _ _ _ h3
  replace h4 := hS _ _ _ h4
  replace h5 := hS _ _ _ h5
  replace h6 := hS _ _ _ h6
  replace h7 := hS _ _ _ h7
  replace h8 := hS _ _ _ h8
  clear hS
  generalize (⟨(ServerV lr ls lx).1.toArray⟩ : ByteArray) = T1 at *
  generalize (ServerV lr ls lx).2 = k1 at *
  generalize (⟨(RetryV ls).1.toArray⟩ : ByteArray) = T2 at *
  generalize (RetryV ls).2 = k2 at *
  generalize (⟨(CertV ld).1.toArray⟩ : ByteArray) = T3 at *
  generalize (CertV ld).2 = k3 at *
  generalize (⟨(VerifyV lg).1.toArray⟩ : ByteArray) = T4 at *
  generalize (VerifyV lg).2 = k4 at *
  clear lr ls lx ld lg
  have h1 := hid h1
  have h2 := hid h2
  have h3 := hid h3
  have h4 := hid h4
  have h5 := hid h5
  have h6 := hid h6
  have h7 := hid h7
  have h8 := hid h8
  have B0 := below_self W
  obtain ⟨R, hR⟩ : ∃ n, r.size = n := ⟨_, rfl⟩
  obtain ⟨S, hS⟩ : ∃ n, s.size = n := ⟨_, rfl⟩
  obtain ⟨X, hX⟩ : ∃ n, x.size = n := ⟨_, rfl⟩
  obtain ⟨D, hD⟩ : ∃ n, d.size = n := ⟨_, rfl⟩
  obtain ⟨G, hG⟩ : ∃ n, g.size = n := ⟨_, rfl⟩
  rw [hR] at br
  rw [hS] at bs
  rw [hX] at bx
  rw [hG] at bg
  by_cases hs : 2048 < R + S + X + G
  · have d1 : decide ((2048 : Int) < (R : Int) + (S : Int) + (X : Int) + (G : Int)) = true := decide_eq_true (by omega)
    go_enter Try.func7, Try.ntmps7
    go_wp2_with fail
    refine (hA.out _).mono ?_
    rintro e w' ⟨rfl, hb⟩
    have HB := hid hb
    clear hb
    go_wp2_with fail
    go_ret
    exact ⟨rfl, HB.out⟩
  · have d1 : decide ((2048 : Int) < (R : Int) + (S : Int) + (X : Int) + (G : Int)) = false := decide_eq_false (by omega)
    by_cases q1 : 2048 < D
    · have d2 : decide ((2048 : Int) < (D : Int)) = true := decide_eq_true (by omega)
      by_cases q2 : D < 16364
      · have d3 : decide ((D : Int) < 16364) = true := decide_eq_true (by omega)
        go_enter Try.func7, Try.ntmps7
        go_wp2_with fail
        refine (hA.out _).mono ?_
        rintro e w' ⟨rfl, hb⟩
        have HB := hid hb
        clear hb
        go_wp2_with fail
        go_ret
        exact ⟨rfl, HB.out⟩
      · have d3 : decide ((D : Int) < 16364) = false := decide_eq_false (by omega)
        by_cases q3 : 16384 < D
        · have d4 : decide ((16384 : Int) < (D : Int)) = true := decide_eq_true (by omega)
          go_enter Try.func7, Try.ntmps7
          go_wp2_with fail
          refine (hA.out _).mono ?_
          rintro e w' ⟨rfl, hb⟩
          have HB := hid hb
          clear hb
          go_wp2_with fail
          go_ret
          exact ⟨rfl, HB.out⟩
        · have d4 : decide ((16384 : Int) < (D : Int)) = false := decide_eq_false (by omega)
          go_enter Try.func7, Try.ntmps7
          go_wp2_with fail
          refine (h1.out _).mono ?_
          rintro e w1 ⟨b1, rfl⟩
          have B1 := hid (below_to B0.out b1)
          clear b1
          go_wp2_with fail
          refine (h2.out _).mono ?_
          rintro e w2 ⟨b1, rfl⟩
          have B2 := hid (below_to B1.out b1)
          clear b1
          go_wp2_with fail
          refine (h3.out _).mono ?_
          rintro e w3 ⟨b1, rfl⟩
          have B3 := hid (below_to B2.out b1)
          clear b1
          go_wp2_with fail
          refine (h4.out _).mono ?_
          rintro e w4 ⟨b1, rfl⟩
          have B4 := hid (below_to B3.out b1)
          clear b1
          go_wp2_with fail
          refine (h5.out _).mono ?_
          rintro e w5 ⟨b1, rfl⟩
          have B5 := hid (below_to B4.out b1)
          clear b1
          go_wp2_with fail
          refine (h6.out _).mono ?_
          rintro e w6 ⟨b1, rfl⟩
          have B6 := hid (below_to B5.out b1)
          clear b1
          go_wp2_with fail
          refine (h7.out _).mono ?_
          rintro e w7 ⟨b1, rfl⟩
          have B7 := hid (below_to B6.out b1)
          clear b1
          go_wp2_with fail
          refine (h8.out _).mono ?_
          rintro e w8 ⟨b1, rfl⟩
          have B8 := hid (below_to B7.out b1)
          clear b1
          go_wp2_with fail
          refine (hA.out _).mono ?_
          rintro e w9 ⟨rfl, hb⟩
          have HB := hid (below_to B8.out hb)
          clear hb
          go_wp2_with fail
          go_ret
          exact ⟨rfl, HB.out⟩
    · have d2 : decide ((2048 : Int) < (D : Int)) = false := decide_eq_false (by omega)
      have d4 : decide ((16384 : Int) < (D : Int)) = false := decide_eq_false (by omega)
      go_enter Try.func7, Try.ntmps7
      go_wp2_with fail
      refine (h1.out _).mono ?_
      rintro e w1 ⟨b1, rfl⟩
      have B1 := hid (below_to B0.out b1)
      clear b1
      go_wp2_with fail
      refine (h2.out _).mono ?_
      rintro e w2 ⟨b1, rfl⟩
      have B2 := hid (below_to B1.out b1)
      clear b1
      go_wp2_with fail
      refine (h3.out _).mono ?_
      rintro e w3 ⟨b1, rfl⟩
      have B3 := hid (below_to B2.out b1)
      clear b1
      go_wp2_with fail
      refine (h4.out _).mono ?_
      rintro e w4 ⟨b1, rfl⟩
      have B4 := hid (below_to B3.out b1)
      clear b1
      go_wp2_with fail
      refine (h5.out _).mono ?_
      rintro e w5 ⟨b1, rfl⟩
      have B5 := hid (below_to B4.out b1)
      clear b1
      go_wp2_with fail
      refine (h6.out _).mono ?_
      rintro e w6 ⟨b1, rfl⟩
      have B6 := hid (below_to B5.out b1)
      clear b1
      go_wp2_with fail
      refine (h7.out _).mono ?_
      rintro e w7 ⟨b1, rfl⟩
      have B7 := hid (below_to B6.out b1)
      clear b1
      go_wp2_with fail
      refine (h8.out _).mono ?_
      rintro e w8 ⟨b1, rfl⟩
      have B8 := hid (below_to B7.out b1)
      clear b1
      go_wp2_with fail
      refine (hA.out _).mono ?_
      rintro e w9 ⟨rfl, hb⟩
      have HB := hid (below_to B8.out hb)
      clear hb
      go_wp2_with fail
      go_ret
      exact ⟨rfl, HB.out⟩
namespace helloSays
                         open Go.ChangeShapes Go.WideShapes Go.ChangeAt Go.RowKit
                         open Go.ChangeMaps (open_string shut_string)
                         theorem own : ownKnob Try.prog.godebug = none := by kernel_rfl
                         theorem laidOut : laidOutB Try.prog = true := by kernel_rfl
                         set_option maxRecDepth 100000 in
                         theorem lifted (os : Os) (started : os.Started) (H : Type) (enc : TypeId × Value → H) :
                             ReturnsInHanded {} Try.checked os 7 .any (Rows.helloSaysSpec.pre6 enc Try.prog Try.f7 Rows.helloSaysRow.domain false) (Rows.helloSaysSpec.post enc Try.prog Try.f7 false true false false) := by
                           refine returnsInHanded_of_change_sized (C := Try.checked) own started (by kernel_rfl) Try.func7
                             (ChangeSpec.witness6 (enc := enc) (C := Try.checked) false ⟨#[], #[.string ByteArray.empty, .string ByteArray.empty, .string ByteArray.empty, .string ByteArray.empty, .string ByteArray.empty], []⟩ 8 (by kernel_rfl) (by kernel_rfl) (by kernel_rfl) (by kernel_rfl)) ?_
                           intro W base args ds gs before hval0 hW hcnd hsz _
                           have hval : ∀ (j : Nat) t v, Try.f7.params[j]? = some t → args[j]? = some v → Value.okWide Try.prog W .any base t v := hval0
                           have hW' := hW
                           obtain ⟨p, q, hA0, hV, rfl, hfz, hnd⟩ := hW
                           have hA : DataW.TrodAll enc Try.prog W 0 (fun _ => true) true Try.f7.params.toList args.toList ds p := hA0
                           rw [Try.params7] at hA hval
                           obtain ⟨v0, vs0, d0, ds0, p0, q0, hargs, rfl, rfl, h0, r0⟩ := trodAll_cons hA
                           obtain ⟨v1, vs1, d1, ds1, p1, q1, rfl, rfl, rfl, h1, r1⟩ := trodAll_cons r0
                           obtain ⟨v2, vs2, d2, ds2, p2, q2, rfl, rfl, rfl, h2, r2⟩ := trodAll_cons r1
                           obtain ⟨v3, vs3, d3, ds3, p3, q3, rfl, rfl, rfl, h3, r3⟩ := trodAll_cons r2
                           obtain ⟨v4, vs4, d4, ds4, p4, q4, rfl, rfl, rfl, h4, r4⟩ := trodAll_cons r3
                           obtain ⟨rfl, rfl, rfl⟩ := trodAll_nil r4
                           obtain rfl : args = #[v0, v1, v2, v3, v4] := by cases args; simp_all
                           obtain ⟨rfl, rfl⟩ := trodVars_none hV
                           have z0 : ∀ n ∈ d0.weights Try.prog 9, n ≤ reachBytes := fun n hn => by simpa using List.all_eq_true.1 hsz n (DataW.weights_mem_each (j := 0) (t := 9) rfl rfl n hn)
                           have z1 : ∀ n ∈ d1.weights Try.prog 9, n ≤ reachBytes := fun n hn => by simpa using List.all_eq_true.1 hsz n (DataW.weights_mem_each (j := 1) (t := 9) rfl rfl n hn)
                           have z2 : ∀ n ∈ d2.weights Try.prog 9, n ≤ reachBytes := fun n hn => by simpa using List.all_eq_true.1 hsz n (DataW.weights_mem_each (j := 2) (t := 9) rfl rfl n hn)
                           have z3 : ∀ n ∈ d3.weights Try.prog 9, n ≤ reachBytes := fun n hn => by simpa using List.all_eq_true.1 hsz n (DataW.weights_mem_each (j := 3) (t := 9) rfl rfl n hn)
                           have z4 : ∀ n ∈ d4.weights Try.prog 9, n ≤ reachBytes := fun n hn => by simpa using List.all_eq_true.1 hsz n (DataW.weights_mem_each (j := 4) (t := 9) rfl rfl n hn)
                           have k0 := h0
                           have lt0 : ∀ x ∈ p0, x.block < W.heap.size := by obtain ⟨m, hm⟩ := k0; exact DataW.trod_lt m _ _ _ hm
                           obtain ⟨a0, rfl, rfl, rfl, w0⟩ := open_string Try.underlying9 (hval 0 9 v0 rfl rfl) h0
                           have k1 := h1
                           have lt1 : ∀ x ∈ p1, x.block < W.heap.size := by obtain ⟨m, hm⟩ := k1; exact DataW.trod_lt m _ _ _ hm
                           obtain ⟨a1, rfl, rfl, rfl, w1⟩ := open_string Try.underlying9 (hval 1 9 v1 rfl rfl) h1
                           have k2 := h2
                           have lt2 : ∀ x ∈ p2, x.block < W.heap.size := by obtain ⟨m, hm⟩ := k2; exact DataW.trod_lt m _ _ _ hm
                           obtain ⟨a2, rfl, rfl, rfl, w2⟩ := open_string Try.underlying9 (hval 2 9 v2 rfl rfl) h2
                           have k3 := h3
                           have lt3 : ∀ x ∈ p3, x.block < W.heap.size := by obtain ⟨m, hm⟩ := k3; exact DataW.trod_lt m _ _ _ hm
                           obtain ⟨a3, rfl, rfl, rfl, w3⟩ := open_string Try.underlying9 (hval 3 9 v3 rfl rfl) h3
                           have k4 := h4
                           have lt4 : ∀ x ∈ p4, x.block < W.heap.size := by obtain ⟨m, hm⟩ := k4; exact DataW.trod_lt m _ _ _ hm
                           obtain ⟨a4, rfl, rfl, rfl, w4⟩ := open_string Try.underlying9 (hval 4 9 v4 rfl rfl) h4
                           clear hA0 hval0
                           have s0 : a0.size ≤ 140737488351232 := by have h := z0 a0.size (by simp [DataW.weights]); exact h
                           have s1 : a1.size ≤ 140737488351232 := by have h := z1 a1.size (by simp [DataW.weights]); exact h
                           have s2 : a2.size ≤ 140737488351232 := by have h := z2 a2.size (by simp [DataW.weights]); exact h
                           have s4 : a4.size ≤ 140737488351232 := by have h := z4 a4.size (by simp [DataW.weights]); exact h
                           refine Calls.mono (R := fun e w' => e = .returned (.bool true) ∧ Below W.heap.size W w') ?_ fun e W' ⟨he, bel⟩ => ?_
                           · exact lsays_any a0 a1 a2 a3 a4 W s0 s1 s2 s4
                           subst he
                           exact ⟨_, rfl, _, _, _, [], _, [], hW', trodAll_mk1 (shut_bool Try.underlying4 _), (trodAll_cons_mk (Below.trod laidOut (by kernel_rfl) (of_decide_eq_true (by kernel_rfl)) k0 bel lt0) (trodAll_cons_mk (Below.trod laidOut (by kernel_rfl) (of_decide_eq_true (by kernel_rfl)) k1 bel lt1) (trodAll_cons_mk (Below.trod laidOut (by kernel_rfl) (of_decide_eq_true (by kernel_rfl)) k2 bel lt2) (trodAll_cons_mk (Below.trod laidOut (by kernel_rfl) (of_decide_eq_true (by kernel_rfl)) k3 bel lt3) (trodAll_cons_mk (Below.trod laidOut (by kernel_rfl) (of_decide_eq_true (by kernel_rfl)) k4 bel lt4) trodAll_mk0))))), rfl, bel.frame _, fun h => by cases h⟩
                         
                         theorem over : Rows.helloSaysRow.holds Try.pinned (OpenSpec.ofChange Rows.helloSaysSpec) :=
                           OpenClaim.holds_of_wide 7 Try.f7 rfl rfl rfl rfl rfl rfl rfl ⟨rfl, rfl, rfl, rfl, rfl⟩ rfl rfl rfl rfl rfl (by kernel_rfl) Try.func7 (by kernel_rfl)
                             (of_decide_eq_true (by kernel_rfl)) (by unfold Func.isWrapper; first | (rw [if_pos (by decide +kernel)]; kernel_rfl) | (rw [if_neg (by decide +kernel)]; exact ⟨rfl, rfl⟩))
                             (fun os started H enc _ => lifted os started H enc)
                         end helloSays
                         /-- The given statement. -/
                         theorem helloSays_proved : Rows.HelloSaysSaid := helloSays.over
                         #print axioms helloSays_proved
end Go.Proofs.Ytliblhfabnjpkaa
