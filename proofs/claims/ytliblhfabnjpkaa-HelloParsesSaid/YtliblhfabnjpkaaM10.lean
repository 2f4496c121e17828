/- A region that draws its order, in which several operations make memory and several store: an invariant that knows which are done. A region that draws its order, in which variables are made and old ones turned, each by one store of a whole value: which way the draw goes does not matter. A region that draws its order, in which variables are made and old ones turned: the law and its steps. A region that draws its order, with one store of a whole value into an old block, which need not wait for all that stands ahead. -/
import Derived.Test.YtliblhfabnjpkaaM07
import Derived.Test.YtliblhfabnjpkaaM01
namespace Go.Proofs.Ytliblhfabnjpkaa
open Go Go.RowKit

section
variable {P : Program} {ops : Array Oper} {pv : List Nat} {Rel : Nat → Value → World → Prop} {C : World → Prop}

def also (S : Nat → Bool) (i : Nat) : Nat → Bool := fun j => if j = i then true else S j
/-- What waits for another comes behind it. -/
def CloS (ops : Array Oper) (S : Nat → Bool) : Prop := ∀ j o, ops[j]? = some o → S j = true → ∀ e ∈ o.after, Region.binds .any e = true → S e.on = true
def Due (ops : Array Oper) (S : Nat → Bool) (i : Nat) : Prop := S i = false ∧ ∀ o, ops[i]? = some o → ∀ e ∈ o.after, Region.binds .any e = true → S e.on = true
abbrev InvT := (Nat → Bool) → (Nat → Value) → World → Prop
def PostI (ops : Array Oper) (pv : List Nat) (Inv : InvT) : PostT := fun i v g w u x => ∀ S, CloS ops S → Due ops S i → Inv S g w → (i ∉ pv → u = v) ∧ Inv (also S i) (if i ∈ pv then fun p => if p = i then u else g p else g) x

theorem wpAny_of_inv (h : Priv ops pv) (hsel : ∀ (j : Nat) (o : Oper) cs b, ops[j]? = some o → o.op ≠ .select cs b) {Q : Act → Prop} {Q' : Exit → Act → World → Prop} (Inv : InvT)
    (hI1 : ∀ S g w, Inv S g w → C w) (hI2 : ∀ S g w p, p ∈ pv → S p = true → Inv S g w → Rel p (g p) w)
    (hU : ∀ S g w i o, ops[i]? = some o → o.guard ≠ none → Inv S g w → Inv (also S i) g w)
    (hQ : ∀ S g a w, (∀ s, s < ops.size → S s = true) → Inv S g w → Q a → Q' .normal (over ops pv g a) w) :
    ∀ (fuel : Nat) (listed : Array Bool) (a : Act) (g : Nat → Value) (r : Act) (w : World), Closed .any ops listed → Real ops pv (fun p => listed.getD p false) g a r → Inv (fun p => listed.getD p false) g w →
    listed.size = ops.size →
    wpAnyG P ops pv Rel C (PostI ops pv Inv) (fun listed a => (∀ s, s < ops.size → listed.getD s false = true) ∧ Q a) fuel listed a → wpAny P .any ops Q' fuel listed r w := by
  have fin : ∀ (listed : Array Bool) (a : Act) (g : Nat → Value) (r : Act) (w : World), Real ops pv (fun p => listed.getD p false) g a r → Inv (fun p => listed.getD p false) g w →
      (∀ s, s < ops.size → listed.getD s false = true) → Q a → Q' .normal r w := fun listed a g r w hr hi hall hq => by
    have hl : ∀ p ∈ pv, listed.getD p false = true := fun p hp => by
      obtain ⟨o, t, ho, _⟩ := h.has p hp
      exact hall p (Array.getElem?_eq_some_iff.1 ho).1
    rw [hr.all h hl]
    exact hQ _ g a w hall hi hq
  intro fuel
  induction fuel with
  | zero => intro listed a g r w _ hr hi hsz hh; exact ⟨hh.1, fin listed a g r w hr hi hh.2.1 hh.2.2⟩
  | succ fuel ih =>
    intro listed a g r w hc hr hinv hsz hh
    refine ⟨fun h0 => fin listed a g r w hr hinv (hh.1 h0).1 (hh.1 h0).2, fun i hi => ?_⟩
    have h2 := hh.2 i hi
    have hc2 := hc.set hi
    have hsz2 : (listed.setIfInBounds i true).size = ops.size := by simpa using hsz
    obtain ⟨hif, hil⟩ := getD_ft (mem_ready.1 hi).1
    have hS : (fun p => (listed.setIfInBounds i true).getD p false) i = true := by simp [hil]
    have hS2 : ∀ p, p ≠ i → (fun p => (listed.setIfInBounds i true).getD p false) p = (fun p => listed.getD p false) p := fun p hp => getD_set_ne false (Ne.symm hp)
    have hSe : (fun p => (listed.setIfInBounds i true).getD p false) = also (fun p => listed.getD p false) i := by
      funext j
      unfold also
      by_cases hj : j = i
      · rw [if_pos hj, hj]; exact hS
      · rw [if_neg hj]; exact hS2 j hj
    obtain ⟨_, o, ho, hall⟩ := mem_ready.1 hi
    have hclo : CloS ops (fun p => listed.getD p false) := fun j oj hj hl e he hb => hc j oj hj hl e he hb
    have hdue : Due ops (fun p => listed.getD p false) i := ⟨hif, fun o' ho' e he hb => by
      have : o' = o := Option.some.inj (ho'.symm.trans ho)
      subst this
      exact hall e he hb⟩
    unfold gOp at h2
    unfold wpOp
    simp only [ho] at h2 ⊢
    obtain ⟨v, hd, hK⟩ := h2
    rw [real_wanted h ho hr]
    rcases hd with ⟨hwt, hd⟩ | ⟨hwt, rfl⟩
    · rw [hwt, if_pos rfl]
      refine .inl ?_
      have hwl : ∀ p ∈ pv, waitsB o p = true → listed.getD p false = true := fun p hp hwp => by
        unfold waitsB at hwp
        obtain ⟨e, he, hb⟩ := Array.any_eq_true'.1 hwp
        simp only [Bool.and_eq_true, beq_iff_eq] at hb
        rw [← hb.2]; exact hall e he hb.1
      refine wp_of_gRaw (real_exec h ho (fun cs b => hsel i o cs b ho) hr hwl) (hd g w (hI1 _ g w hinv) (fun p hp hwp => hI2 _ g w p hp (hwl p hp (by unfold usesB at hwp; rw [Bool.and_eq_true] at hwp; exact hwp.1)) hinv)) fun u x hok => ?_
      obtain ⟨e1, e2⟩ := hok _ hclo hdue hinv
      rw [← hSe] at e2
      by_cases hip : i ∈ pv
      · rw [if_pos hip] at e2
        exact ih _ _ (fun p => if p = i then u else g p) _ _ hc2 (hr.step h ho hS hS2 v u _ (fun p hp => if_neg hp) (by rw [if_pos hip, if_pos rfl])) e2 hsz2 hK
      · rw [if_neg hip] at e2
        exact ih _ _ g _ _ hc2 (hr.step h ho hS hS2 v u g (fun _ _ => rfl) (by rw [if_neg hip]; exact e1 hip)) e2 hsz2 hK
    · rw [hwt]
      have hgn : o.guard ≠ none := fun hg => by
        unfold Region.wanted at hwt
        rw [hg] at hwt
        cases hwt
      have hip : i ∉ pv := fun hp => by
        obtain ⟨o2, t, ho2, _, hg⟩ := h.has i hp
        have : o2 = o := Option.some.inj (ho2.symm.trans ho)
        subst this
        exact hgn hg
      refine ih _ _ g _ _ hc2 (hr.step h ho hS hS2 undef undef g (fun _ _ => rfl) (by rw [if_neg hip])) ?_ hsz2 hK
      rw [hSe]
      exact hU _ g w i o ho hgn hinv
/-- The law. -/
theorem wp_region_inv {id : Nat} {Q : Exit → Act → World → Prop} {a : Act} {w : World} {l : List Oper} (pv : List Nat) (Rel : Nat → Value → World → Prop) (C : World → Prop) (Inv : InvT) (hm : P.follows .mixedOrders = true) (hB : Region.lexB .any l.toArray = true) (hP : privB l.toArray pv = true)
    (hI0 : Inv (fun _ => false) (fun _ => undef) w.drew) (hI1 : ∀ S g w, Inv S g w → C w) (hI2 : ∀ S g w p, p ∈ pv → S p = true → Inv S g w → Rel p (g p) w)
    (hU : ∀ S g w i o, l[i]? = some o → o.guard ≠ none → Inv S g w → Inv (also S i) g w)
    (h : wpGho P l.toArray pv Rel C (PostI l.toArray pv Inv) (fun a' => ∀ S g w', (∀ s, s < l.length → S s = true) → Inv S g w' → Q .normal (over l.toArray pv g a') w') 0 l a) : (Code.region id l.toArray true).wp P Q a w := by
  simp only [Region.lexB, Bool.and_eq_true] at hB
  refine wp_region_any hm ?_
  have hp := Priv.of hP
  have hx := wpAnyG_lex (P := P) (pv := pv) (Rel := Rel) (C := C) hp hB.1 l 0 (Array.replicate l.toArray.size false) a (by simp) (by simp) (fun j hj => absurd hj (Nat.not_lt_zero _)) (by simpa using hB.2) h
  have hf : ∀ m j, (Array.replicate m false).getD j false = false := fun m j => by
    rcases Nat.lt_or_ge j m with h | h
    · simp [h]
    · simp [h]
  have hy := wpAny_of_inv (P := P) (ops := l.toArray) (pv := pv) (Rel := Rel) (C := C) hp (Region.noSelect_spec hB.1) Inv hI1 hI2 (fun S g w i o ho => hU S g w i o (by simpa using ho))
    (fun S g a w' hs hi hq => hq S g w' (fun s hs' => hs s (by simpa using hs')) hi) _ _ _ (fun _ => undef) a w.drew (fun j oj _ hl => by rw [hf] at hl; cases hl)
    ⟨rfl, rfl, fun t _ => by
      unfold valAt
      have : (pv.find? fun p => (Array.replicate l.toArray.size false).getD p false && dstOf l.toArray p == some t) = none := by
        rw [List.find?_eq_none]; intro p _; rw [hf]; simp
      rw [this]⟩ (by rw [show (fun p => (Array.replicate l.toArray.size false).getD p false) = fun _ => false from funext fun p => hf _ p]; exact hI0) (by simp) hx
  simpa using hy
end

end Go.Proofs.Ytliblhfabnjpkaa

namespace Go.Proofs.Ytliblhfabnjpkaa
open Go Go.RowKit

/-- A variable: the operation that stores into it, what it holds ahead of that and behind it. -/
structure Cel where
  st : Nat
  ini : Array Value
  fin : Array Value
  T : TypeId
def Cel.at (c : Cel) (S : Nat → Bool) : Obj := .cells (if S c.st then c.fin else c.ini) c.T (0, 0)
/-- A world in which all that stood in w stands, but for what lies in ex. -/
structure LaterX (ex : Nat → Prop) (w : World) where
  w' : World
  h : Out ex w w'
instance (ex : Nat → Prop) (w : World) : Nonempty (LaterX ex w) := ⟨⟨w, Out.refl _ _⟩⟩
theorem laterx_get {ex : Nat → Prop} {w : World} {b : Nat} {o : Obj} (g : hget w b = some o) (hn : ¬ ex b) (x : LaterX ex w) : hget x.w' b = some o := x.h.get g hn
theorem laterx_cell {ex : Nat → Prop} {w : World} {p : Addr} {v : Value} (g : w.cell? p = some v) (hn : ¬ ex p.block) (x : LaterX ex w) : x.w'.cell? p = some v := x.h.cell g hn

theorem blk_hit {w : World} {b : Nat} {o : Obj} (h : b < w.heap.size) : (blk w b o).heap[b]? = some o := by
  unfold blk
  simp [h]

section
variable {P : Program} {ops : Array Oper} {pv : List Nat} {cel : Nat → Cel} {eo : List Nat} {oel : Nat → Cel} {w : World}
def VRel (cel : Nat → Cel) (p : Nat) (v : Value) (w' : World) : Prop := ∃ b cs, v = .pointer (some ⟨b, 0, none⟩) ∧ hget w' b = some (.cells cs (cel p).T (0, 0)) ∧ (cs = (cel p).ini ∨ cs = (cel p).fin)
structure VInv (pv : List Nat) (cel : Nat → Cel) (eo : List Nat) (oel : Nat → Cel) (w : World) (S : Nat → Bool) (g : Nat → Value) (w' : World) : Prop where
  out : Out (fun b => b ∈ eo) w w'
  old : ∀ e ∈ eo, hget w' e = some ((oel e).at S)
  new : ∀ p ∈ pv, S p = true → ∃ b, g p = .pointer (some ⟨b, 0, none⟩) ∧ w.heap.size ≤ b ∧ hget w' b = some ((cel p).at S)
  apart : ∀ p ∈ pv, ∀ q ∈ pv, p ≠ q → S p = true → S q = true → g p ≠ g q
def VC (eo : List Nat) (oel : Nat → Cel) (w w' : World) : Prop := Out (fun b => b ∈ eo) w w' ∧ ∀ e ∈ eo, hget w' e = some (.cells (oel e).ini (oel e).T (0, 0)) ∨ hget w' e = some (.cells (oel e).fin (oel e).T (0, 0))
theorem Cel.at_cases (c : Cel) (S : Nat → Bool) : c.at S = .cells c.ini c.T (0, 0) ∨ c.at S = .cells c.fin c.T (0, 0) := by unfold Cel.at; split <;> simp
theorem VInv.vc {S : Nat → Bool} {g : Nat → Value} {w' : World} (h : VInv pv cel eo oel w S g w') : VC eo oel w w' := ⟨h.out, fun e he => by
  rcases (oel e).at_cases S with h1 | h1 <;> rw [h.old e he, h1] <;> simp⟩
theorem VInv.rel {S : Nat → Bool} {g : Nat → Value} {w' : World} {p : Nat} (hp : p ∈ pv) (hs : S p = true) (h : VInv pv cel eo oel w S g w') : VRel cel p (g p) w' := by
  obtain ⟨b, h1, _, h2⟩ := h.new p hp hs
  rcases (cel p).at_cases S with h3 | h3
  · exact ⟨b, _, h1, by rw [h2, h3], .inl rfl⟩
  · exact ⟨b, _, h1, by rw [h2, h3], .inr rfl⟩
theorem Cel.at_also {c : Cel} {S : Nat → Bool} {i : Nat} (h : c.st ≠ i) : c.at (also S i) = c.at S := by unfold Cel.at also; rw [if_neg h]
theorem Cel.at_done {c : Cel} {S : Nat → Bool} : c.at (also S c.st) = .cells c.fin c.T (0, 0) := by unfold Cel.at also; rw [if_pos rfl, if_pos rfl]
/-- An operation that neither makes nor stores has been done. -/
theorem VInv.quiet {S : Nat → Bool} {g : Nat → Value} {w1 x : World} {i : Nat} (h : VInv pv cel eo oel w S g w1) (hip : i ∉ pv) (hs : ∀ p ∈ pv, (cel p).st ≠ i) (ho : ∀ e ∈ eo, (oel e).st ≠ i) (hb : Below w1.heap.size w1 x) : VInv pv cel eo oel w (also S i) g x := by
  refine ⟨h.out.then (Out.of_below hb), fun e he => ?_, fun p hp hsp => ?_, fun p hp q hq hpq h1 h2 => ?_⟩
  · rw [Cel.at_also (ho e he), hget_eq, hb.block e (hget_lt (h.old e he))]
    exact h.old e he
  · have hpi : p ≠ i := fun e => hip (e ▸ hp)
    have hsp' : S p = true := by unfold also at hsp; rwa [if_neg hpi] at hsp
    obtain ⟨b, e1, e2, e3⟩ := h.new p hp hsp'
    exact ⟨b, e1, e2, by rw [Cel.at_also (hs p hp), hget_eq, hb.block b (hget_lt e3)]; exact e3⟩
  · have hpi : p ≠ i := fun e => hip (e ▸ hp)
    have hqi : q ≠ i := fun e => hip (e ▸ hq)
    unfold also at h1 h2
    rw [if_neg hpi] at h1
    rw [if_neg hqi] at h2
    exact h.apart p hp q hq hpq h1 h2
/-- A variable has been made. -/
theorem VInv.make {S : Nat → Bool} {g : Nat → Value} {w1 : World} {i : Nat} (h : VInv pv cel eo oel w S g w1) (hip : i ∈ pv) (hs : ∀ p ∈ pv, (cel p).st ≠ i) (ho : ∀ e ∈ eo, (oel e).st ≠ i) (hst : S (cel i).st = false) :
    VInv pv cel eo oel w (also S i) (fun p => if p = i then .pointer (some ⟨w1.heap.size, 0, none⟩) else g p) (w1.alloc (.cells (cel i).ini (cel i).T (0, 0))) := by
  have hb := below_new (w := w1) (.cells (cel i).ini (cel i).T (0, 0))
  refine ⟨h.out.then (Out.of_below hb), fun e he => ?_, fun p hp hsp => ?_, fun p hp q hq hpq h1 h2 => ?_⟩
  · rw [Cel.at_also (ho e he), hget_eq, hb.block e (hget_lt (h.old e he))]
    exact h.old e he
  · by_cases hpi : p = i
    · subst hpi
      refine ⟨w1.heap.size, if_pos rfl, h.out.size, ?_⟩
      rw [Cel.at_also (hs p hp)]
      unfold Cel.at
      rw [hst]
      exact alloc_at w1 _
    · have hsp' : S p = true := by unfold also at hsp; rwa [if_neg hpi] at hsp
      obtain ⟨b, e1, e2, e3⟩ := h.new p hp hsp'
      exact ⟨b, by rw [if_neg hpi]; exact e1, e2, by rw [Cel.at_also (hs p hp), hget_eq, hb.block b (hget_lt e3)]; exact e3⟩
  · have fresh : ∀ q ∈ pv, S q = true → g q ≠ .pointer (some ⟨w1.heap.size, 0, none⟩) := fun q hq hsq e => by
      obtain ⟨b, e1, _, e3⟩ := h.new q hq hsq
      rw [e1] at e
      have hlt := hget_lt e3
      injection e with e
      injection e with e
      injection e with e
      omega
    unfold also at h1 h2
    by_cases hpi : p = i
    · have hqi : q ≠ i := fun e => hpq (hpi.trans e.symm)
      rw [if_neg hqi] at h2
      rw [if_pos hpi, if_neg hqi]
      exact fun e => fresh q hq h2 e.symm
    · rw [if_neg hpi] at h1
      by_cases hqi : q = i
      · rw [if_neg hpi, if_pos hqi]
        exact fresh p hp h1
      · rw [if_neg hqi] at h2
        rw [if_neg hpi, if_neg hqi]
        exact h.apart p hp q hq hpq h1 h2
/-- A new variable has been stored into. -/
theorem VInv.storeNew {S : Nat → Bool} {g : Nat → Value} {w1 : World} {p b : Nat} (h : VInv pv cel eo oel w S g w1) (hp : p ∈ pv) (hsp : S p = true) (hip : (cel p).st ∉ pv) (hs : ∀ q ∈ pv, q ≠ p → (cel q).st ≠ (cel p).st) (ho : ∀ e ∈ eo, (oel e).st ≠ (cel p).st) (heo : ∀ e ∈ eo, e < w.heap.size) (hb : g p = .pointer (some ⟨b, 0, none⟩)) :
    VInv pv cel eo oel w (also S (cel p).st) g (blk w1 b (.cells (cel p).fin (cel p).T (0, 0))) := by
  obtain ⟨b', e1, e2, e3⟩ := h.new p hp hsp
  have hbb : b' = b := by
    rw [e1] at hb
    injection hb with hb
    injection hb with hb
    injection hb
  subst hbb
  have hne : ∀ q ∈ pv, q ≠ (cel p).st := fun q hq e => hip (e ▸ hq)
  refine ⟨h.out.blk (.inr e2) _, fun e he => ?_, fun q hq hsq => ?_, fun q hq r hr hqr h1 h2 => ?_⟩
  · have hlt := heo e he
    rw [Cel.at_also (ho e he), hget_eq, blk_other e (by omega)]
    exact h.old e he
  · have hsq' : S q = true := by unfold also at hsq; rwa [if_neg (hne q hq)] at hsq
    by_cases hqp : q = p
    · subst hqp
      refine ⟨b', e1, e2, ?_⟩
      rw [Cel.at_done, hget_eq]
      exact blk_hit (hget_lt e3)
    · obtain ⟨b2, f1, f2, f3⟩ := h.new q hq hsq'
      have hn : b2 ≠ b' := fun e => h.apart q hq p hp hqp hsq' hsp (by rw [f1, e1, e])
      exact ⟨b2, f1, f2, by rw [Cel.at_also (hs q hq hqp), hget_eq, blk_other b2 hn]; exact f3⟩
  · unfold also at h1 h2
    rw [if_neg (hne q hq)] at h1
    rw [if_neg (hne r hr)] at h2
    exact h.apart q hq r hr hqr h1 h2
/-- An old variable has been stored into. -/
theorem VInv.storeOld {S : Nat → Bool} {g : Nat → Value} {w1 : World} {e : Nat} (h : VInv pv cel eo oel w S g w1) (he : e ∈ eo) (hip : (oel e).st ∉ pv) (hs : ∀ q ∈ pv, (cel q).st ≠ (oel e).st) (ho : ∀ f ∈ eo, f ≠ e → (oel f).st ≠ (oel e).st) (hlt : e < w.heap.size) :
    VInv pv cel eo oel w (also S (oel e).st) g (blk w1 e (.cells (oel e).fin (oel e).T (0, 0))) := by
  have hne : ∀ q ∈ pv, q ≠ (oel e).st := fun q hq e' => hip (e' ▸ hq)
  have he1 := h.old e he
  refine ⟨h.out.blk (.inl he) _, fun f hf => ?_, fun q hq hsq => ?_, fun q hq r hr hqr h1 h2 => ?_⟩
  · by_cases hfe : f = e
    · subst hfe
      rw [Cel.at_done, hget_eq]
      exact blk_hit (hget_lt he1)
    · rw [Cel.at_also (ho f hf hfe), hget_eq, blk_other f hfe]
      exact h.old f hf
  · have hsq' : S q = true := by unfold also at hsq; rwa [if_neg (hne q hq)] at hsq
    obtain ⟨b2, f1, f2, f3⟩ := h.new q hq hsq'
    exact ⟨b2, f1, f2, by rw [Cel.at_also (hs q hq), hget_eq, blk_other b2 (by omega)]; exact f3⟩
  · unfold also at h1 h2
    rw [if_neg (hne q hq)] at h1
    rw [if_neg (hne r hr)] at h2
    exact h.apart q hq r hr hqr h1 h2
end

end Go.Proofs.Ytliblhfabnjpkaa

namespace Go.Proofs.Ytliblhfabnjpkaa
open Go Go.RowKit

theorem wpGho_mono {P : Program} {ops : Array Oper} {pv : List Nat} {Rel : Nat → Value → World → Prop} {C : World → Prop} {Post : PostT} {Q Q' : Act → Prop} (h : ∀ a, Q a → Q' a) : ∀ (l : List Oper) (i : Nat) (a : Act), wpGho P ops pv Rel C Post Q i l a → wpGho P ops pv Rel C Post Q' i l a
  | [], _, a, hh => h a hh
  | _ :: rest, i, _a, ⟨v, h1, h2⟩ => ⟨v, h1, wpGho_mono h rest (i + 1) _ h2⟩
theorem pathS {ops : Array Oper} {S : Nat → Bool} (hc : CloS ops S) (i : Nat) : ∀ (f s : Nat), pathB ops i f s = true → S s = true → S i = true
  | 0, _, h, _ => by cases h
  | f + 1, s, h, hl => by
    unfold pathB at h
    cases ho : ops[s]? with
    | none => rw [ho] at h; cases h
    | some o =>
      rw [ho] at h
      obtain ⟨e, he, hb⟩ := Array.any_eq_true'.1 h
      simp only [Bool.and_eq_true, Bool.or_eq_true, beq_iff_eq] at hb
      have h1 := hc s o ho hl e he hb.1
      rcases hb.2 with h2 | h2
      · rw [← h2]; exact h1
      · exact pathS hc i f e.on h2 h1

section
variable {P : Program} {pv : List Nat} {cel : Nat → Cel} {eo : List Nat} {oel : Nat → Cel} {w : World}
/-- The stores are apart, and come behind what they store into. -/
structure VSep (l : List Oper) (pv : List Nat) (cel : Nat → Cel) (eo : List Nat) (oel : Nat → Cel) (w : World) : Prop where
  nst : ∀ p ∈ pv, (cel p).st ∉ pv
  nn : ∀ p ∈ pv, ∀ q ∈ pv, q ≠ p → (cel q).st ≠ (cel p).st
  no : ∀ p ∈ pv, ∀ e ∈ eo, (oel e).st ≠ (cel p).st
  ost : ∀ e ∈ eo, (oel e).st ∉ pv
  oo : ∀ e ∈ eo, ∀ f ∈ eo, f ≠ e → (oel f).st ≠ (oel e).st
  lt : ∀ e ∈ eo, e < w.heap.size
  behind : ∀ p ∈ pv, ∃ o, l[(cel p).st]? = some o ∧ waitsB o p = true
  sg : ∀ p ∈ pv, ∀ o, l[(cel p).st]? = some o → o.guard = none
  og : ∀ e ∈ eo, ∀ o, l[(oel e).st]? = some o → o.guard = none
abbrev VPost (l : List Oper) (pv : List Nat) (cel : Nat → Cel) (eo : List Nat) (oel : Nat → Cel) (w : World) : PostT := PostI l.toArray pv (VInv pv cel eo oel w)
theorem wp_region_var {id : Nat} {Q : Exit → Act → World → Prop} {a : Act} {l : List Oper} (pv : List Nat) (cel : Nat → Cel) (eo : List Nat) (oel : Nat → Cel) (hm : P.follows .mixedOrders = true) (hB : Region.lexB .any l.toArray = true) (hP : privB l.toArray pv = true)
    (hs : VSep l pv cel eo oel w) (h0 : ∀ e ∈ eo, hget w e = some (.cells (oel e).ini (oel e).T (0, 0)))
    (h : VSep l pv cel eo oel w → wpGho P l.toArray pv (VRel cel) (VC eo oel w) (VPost l pv cel eo oel w) (fun a' => ∀ g (x : LaterX (fun b => b ∈ eo) w), (∀ e ∈ eo, hget x.w' e = some (.cells (oel e).fin (oel e).T (0, 0))) →
      (∀ p ∈ pv, ∃ b, g p = .pointer (some ⟨b, 0, none⟩) ∧ w.heap.size ≤ b ∧ hget x.w' b = some (.cells (cel p).fin (cel p).T (0, 0))) → (∀ p ∈ pv, ∀ q ∈ pv, p ≠ q → g p ≠ g q) → (∀ e ∈ eo, (oel e).st < l.length) → Q .normal (over l.toArray pv g a') x.w') 0 l a)
    (hlt : ∀ e ∈ eo, (oel e).st < l.length) : (Code.region id l.toArray true).wp P Q a w := by
  have hp := Priv.of hP
  refine wp_region_inv pv (VRel cel) (VC eo oel w) (VInv pv cel eo oel w) hm hB hP ⟨(Out.refl _ _).drew, fun e he => h0 e he, fun p _ hf => absurd hf (by decide), fun p _ q _ _ hf => absurd hf (by decide)⟩ (fun S g w' h => h.vc) (fun S g w' p hp hS h => h.rel hp hS) (fun S g w' i o ho hg hi => ?_) ?_
  · have hio : l.toArray[i]? = some o := by simpa using ho
    exact hi.quiet (fun hip => by
      obtain ⟨o2, t, ho2, _, hg2⟩ := hp.has i hip
      have : o2 = o := Option.some.inj (ho2.symm.trans hio)
      subst this
      exact hg hg2) (fun p hp e => hg (hs.sg p hp o (by rw [e]; exact ho))) (fun e' he' e => hg (hs.og e' he' o (by rw [e]; exact ho))) (Below.refl _ _)
  · refine wpGho_mono (fun a' hq => ?_) _ _ _ (h hs)
    intro S g w' hall hinv
    refine hq g ⟨w', hinv.out⟩ (fun e he => ?_) (fun p hp' => ?_) (fun p hp' q hq' hpq => ?_) hlt
    · have := hinv.old e he
      unfold Cel.at at this
      rwa [hall _ (hlt e he), if_pos rfl] at this
    · obtain ⟨o, t, ho, _⟩ := hp.has p hp'
      have hpl : p < l.length := by simpa using (Array.getElem?_eq_some_iff.1 ho).1
      obtain ⟨b, e1, e2, e3⟩ := hinv.new p hp' (hall p hpl)
      obtain ⟨o2, ho2, _⟩ := hs.behind p hp'
      have hsl : (cel p).st < l.length := (List.getElem?_eq_some_iff.1 ho2).1
      unfold Cel.at at e3
      rw [hall _ hsl, if_pos rfl] at e3
      exact ⟨b, e1, e2, e3⟩
    · obtain ⟨o, t, ho, _⟩ := hp.has p hp'
      obtain ⟨o', t', ho', _⟩ := hp.has q hq'
      exact hinv.apart p hp' q hq' hpq (hall p (by simpa using (Array.getElem?_eq_some_iff.1 ho).1)) (hall q (by simpa using (Array.getElem?_eq_some_iff.1 ho').1))
variable {l : List Oper} {Q : Act → Prop} {i : Nat} {a : Act} {o : Oper} {rest : List Oper}
/-- An operation that neither makes nor stores. -/
theorem wpV_plain (_hsep : VSep l pv cel eo oel w) (hP : privB l.toArray pv = true) (hip : pv.contains i = false) (hsel : isSelect o = false) (hpl : (pv.all fun p => !readsB o (dstOf l.toArray p)) = true) (hs : ∀ p ∈ pv, (cel p).st ≠ i) (ho : ∀ e ∈ eo, (oel e).st ≠ i)
    (h : ∀ K : Act → Prop, (∀ a, wpGho P l.toArray pv (VRel cel) (VC eo oel w) (VPost l pv cel eo oel w) Q (i + 1) rest a → K a) →
      if Region.wanted o (yielded l.toArray a.tmps) then ∃ v, (∀ x : LaterX (fun b => b ∈ eo) w, gOut P x.w' (fun u _ => u = v) ((execOp a.eval o).run P x.w')) ∧ K (a.put o.dst v) else K (a.put o.dst undef)) :
    wpGho P l.toArray pv (VRel cel) (VC eo oel w) (VPost l pv cel eo oel w) Q i (o :: rest) a := by
  have h2 := h _ (fun _ h => h)
  have hni : i ∉ pv := by simpa using hip
  cases hw : Region.wanted o (yielded l.toArray a.tmps)
  · rw [hw] at h2
    exact ⟨undef, .inr ⟨hw, rfl⟩, h2⟩
  · rw [hw, if_pos rfl] at h2
    obtain ⟨v, a1, a2⟩ := h2
    refine ⟨v, .inl ⟨hw, ?_⟩, a2⟩
    intro g w1 hC _
    rw [over_plain (Priv.of hP) (not_select hsel) hpl]
    exact gRaw_mono (fun u y hh S _ _ hinv => by
      rw [if_neg hni]
      exact ⟨fun _ => hh.2, hinv.quiet hni hs ho hh.1⟩) (gRaw_of_gOut (a1 ⟨w1, hC.1⟩))
/-- A load of an old variable that is turned in the region, ahead of its store. -/
theorem wpV_load (e : Nat) (he : e ∈ eo) (_hsep : VSep l pv cel eo oel w) (hP : privB l.toArray pv = true) (hip : pv.contains i = false) (hg : o.guard = none) (hsel : isSelect o = false) (hpl : (pv.all fun p => !readsB o (dstOf l.toArray p)) = true) (hs : ∀ p ∈ pv, (cel p).st ≠ i) (ho : ∀ e ∈ eo, (oel e).st ≠ i) (hpath : pathB l.toArray i l.length (oel e).st = true)
    (h : ∀ K : Act → Prop, (∀ a, wpGho P l.toArray pv (VRel cel) (VC eo oel w) (VPost l pv cel eo oel w) Q (i + 1) rest a → K a) →
      ∃ v, (∀ (x : LaterX (fun b => b ∈ eo) w) (cs : Array Value), (cs = (oel e).ini ∨ cs = (oel e).fin) → hget x.w' e = some (.cells cs (oel e).T (0, 0)) → gOut P x.w' (fun u _ => cs = (oel e).ini → u = v) ((execOp a.eval o).run P x.w')) ∧ K (a.put o.dst v)) :
    wpGho P l.toArray pv (VRel cel) (VC eo oel w) (VPost l pv cel eo oel w) Q i (o :: rest) a := by
  obtain ⟨v, a1, a2⟩ := h _ (fun _ h => h)
  have hni : i ∉ pv := by simpa using hip
  refine ⟨v, .inl ⟨by unfold Region.wanted; rw [hg], ?_⟩, a2⟩
  intro g w1 hC _
  rw [over_plain (Priv.of hP) (not_select hsel) hpl]
  have hx : ∃ cs, (cs = (oel e).ini ∨ cs = (oel e).fin) ∧ hget w1 e = some (.cells cs (oel e).T (0, 0)) := by
    rcases hC.2 e he with h1 | h1
    · exact ⟨_, .inl rfl, h1⟩
    · exact ⟨_, .inr rfl, h1⟩
  obtain ⟨cs, hcs, hx⟩ := hx
  refine gRaw_mono (fun u y hh S hclo hdue hinv => ?_) (gRaw_of_gOut (a1 ⟨w1, hC.1⟩ cs hcs hx))
  rw [if_neg hni]
  refine ⟨fun _ => hh.2 ?_, hinv.quiet hni hs ho hh.1⟩
  have hst : S (oel e).st = false := by
    cases hS : S (oel e).st with
    | false => rfl
    | true =>
      have := pathS hclo i _ _ hpath hS
      rw [hdue.1] at this; cases this
  have h3 := hinv.old e he
  unfold Cel.at at h3
  rw [hst, hx] at h3
  injection h3 with h3
  injection h3
/-- A variable is made. -/
theorem wpV_make (hsep : VSep l pv cel eo oel w) (hP : privB l.toArray pv = true) (hip : pv.contains i = true) (hg : o.guard = none) (hsel : isSelect o = false) (hpl : (pv.all fun p => !readsB o (dstOf l.toArray p)) = true) (hs : ∀ p ∈ pv, (cel p).st ≠ i) (ho : ∀ e ∈ eo, (oel e).st ≠ i)
    (h : ∀ K : Act → Prop, (∀ a, wpGho P l.toArray pv (VRel cel) (VC eo oel w) (VPost l pv cel eo oel w) Q (i + 1) rest a → K a) →
      (∀ x : World, (execOp a.eval o).run P x = .ok (.value (.pointer (some ⟨x.heap.size, 0, none⟩))) (x.alloc (.cells (cel i).ini (cel i).T (0, 0)))) ∧ K (a.put o.dst undef)) :
    wpGho P l.toArray pv (VRel cel) (VC eo oel w) (VPost l pv cel eo oel w) Q i (o :: rest) a := by
  obtain ⟨a1, a2⟩ := h _ (fun _ h => h)
  have hi : i ∈ pv := by simpa using hip
  refine ⟨undef, .inl ⟨by unfold Region.wanted; rw [hg], ?_⟩, a2⟩
  intro g w1 hC _
  rw [over_plain (Priv.of hP) (not_select hsel) hpl, a1 w1]
  show PostI _ _ _ _ _ _ _ _ _
  intro S hclo hdue hinv
  rw [if_pos hi]
  refine ⟨fun hn => absurd hi hn, hinv.make hi hs ho ?_⟩
  cases hS : S (cel i).st with
  | false => rfl
  | true =>
    obtain ⟨o2, ho2, hw⟩ := hsep.behind i hi
    unfold waitsB at hw
    obtain ⟨e, he, hb⟩ := Array.any_eq_true'.1 hw
    simp only [Bool.and_eq_true, beq_iff_eq] at hb
    have := hclo _ o2 (by simpa using ho2) hS e he hb.1
    rw [hb.2, hdue.1] at this; cases this
/-- A store into a variable that was made. -/
theorem wpV_store (p : Nat) (hp : p ∈ pv) (hst : (cel p).st = i) (hsep : VSep l pv cel eo oel w) (hip : pv.contains i = false) (hg : o.guard = none) (hu : usesB l.toArray o p = true)
    (h : ∀ K : Act → Prop, (∀ a, wpGho P l.toArray pv (VRel cel) (VC eo oel w) (VPost l pv cel eo oel w) Q (i + 1) rest a → K a) →
      (∀ (g : Nat → Value) (b : Nat) (x : World) (cs : Array Value), g p = .pointer (some ⟨b, 0, none⟩) → (cs = (cel p).ini ∨ cs = (cel p).fin) → hget x b = some (.cells cs (cel p).T (0, 0)) → (execOp (over l.toArray pv g a).eval o).run P x = .ok .skip (blk x b (.cells (cel p).fin (cel p).T (0, 0)))) ∧ K (a.put o.dst undef)) :
    wpGho P l.toArray pv (VRel cel) (VC eo oel w) (VPost l pv cel eo oel w) Q i (o :: rest) a := by
  obtain ⟨a1, a2⟩ := h _ (fun _ h => h)
  have hni : i ∉ pv := by simpa using hip
  refine ⟨undef, .inl ⟨by unfold Region.wanted; rw [hg], ?_⟩, a2⟩
  intro g w1 hC hR
  obtain ⟨b, cs, e1, e2, e3⟩ := hR p hp hu
  rw [a1 g b w1 cs e1 e3 e2]
  show PostI _ _ _ _ _ _ _ _ _
  intro S hclo hdue hinv
  rw [if_neg hni]
  refine ⟨fun _ => rfl, ?_⟩
  have hsp : S p = true := by
    obtain ⟨o2, ho2, hw⟩ := hsep.behind p hp
    unfold waitsB at hw
    obtain ⟨e, he, hb⟩ := Array.any_eq_true'.1 hw
    simp only [Bool.and_eq_true, beq_iff_eq] at hb
    rw [← hb.2]
    exact hdue.2 o2 (by rw [← hst]; simpa using ho2) e he hb.1
  have := hinv.storeNew hp hsp (hsep.nst p hp) (fun q hq hqp => hsep.nn p hp q hq hqp) (fun e he => hsep.no p hp e he) hsep.lt e1
  rwa [hst] at this
/-- A store into an old variable. -/
theorem wpV_storeOld (e : Nat) (he : e ∈ eo) (hst : (oel e).st = i) (hsep : VSep l pv cel eo oel w) (hP : privB l.toArray pv = true) (hip : pv.contains i = false) (hg : o.guard = none) (hsel : isSelect o = false) (hpl : (pv.all fun p => !readsB o (dstOf l.toArray p)) = true)
    (h : ∀ K : Act → Prop, (∀ a, wpGho P l.toArray pv (VRel cel) (VC eo oel w) (VPost l pv cel eo oel w) Q (i + 1) rest a → K a) →
      (∀ (x : World) (cs : Array Value), (cs = (oel e).ini ∨ cs = (oel e).fin) → hget x e = some (.cells cs (oel e).T (0, 0)) → (execOp a.eval o).run P x = .ok .skip (blk x e (.cells (oel e).fin (oel e).T (0, 0)))) ∧ K (a.put o.dst undef)) :
    wpGho P l.toArray pv (VRel cel) (VC eo oel w) (VPost l pv cel eo oel w) Q i (o :: rest) a := by
  obtain ⟨a1, a2⟩ := h _ (fun _ h => h)
  have hni : i ∉ pv := by simpa using hip
  refine ⟨undef, .inl ⟨by unfold Region.wanted; rw [hg], ?_⟩, a2⟩
  intro g w1 hC _
  rw [over_plain (Priv.of hP) (not_select hsel) hpl]
  have hx : ∃ cs, (cs = (oel e).ini ∨ cs = (oel e).fin) ∧ hget w1 e = some (.cells cs (oel e).T (0, 0)) := by
    rcases hC.2 e he with h1 | h1
    · exact ⟨_, .inl rfl, h1⟩
    · exact ⟨_, .inr rfl, h1⟩
  obtain ⟨cs, hcs, hx⟩ := hx
  rw [a1 w1 cs hcs hx]
  show PostI _ _ _ _ _ _ _ _ _
  intro S hclo hdue hinv
  rw [if_neg hni]
  refine ⟨fun _ => rfl, ?_⟩
  have := hinv.storeOld he (hsep.ost e he) (fun q hq => fun hqe => hsep.no q hq e he hqe.symm) (fun f hf hfe => hsep.oo e he f hf hfe) (hsep.lt e he)
  rwa [hst] at this
end

end Go.Proofs.Ytliblhfabnjpkaa

namespace Go.Proofs.Ytliblhfabnjpkaa
open Go Go.RowKit

/-- What stands for an old block, within such a region and behind it. -/
abbrev LaterO (b : Nat) (w : World) := LaterX (fun e => e ∈ [b]) w
def oldC (s : Nat) (ini fin : Array Value) (T : TypeId) : Nat → Cel := fun _ => ⟨s, ini, fin, T⟩
section
variable {P : Program} {w : World} {l : List Oper} {Q : Act → Prop} {i : Nat} {a : Act} {o : Oper} {rest : List Oper} {b s : Nat} {ini fin : Array Value} {T : TypeId}
abbrev wpO (P : Program) (l : List Oper) (b s : Nat) (ini fin : Array Value) (T : TypeId) (w : World) (Q : Act → Prop) (i : Nat) (rest : List Oper) (a : Act) : Prop :=
  wpGho P l.toArray [] (VRel fun _ => ⟨0, #[], #[], 0⟩) (VC [b] (oldC s ini fin T) w) (VPost l [] (fun _ => ⟨0, #[], #[], 0⟩) [b] (oldC s ini fin T) w) Q i rest a
abbrev SepO (l : List Oper) (b s : Nat) (ini fin : Array Value) (T : TypeId) (w : World) : Prop := VSep l [] (fun _ => ⟨0, #[], #[], 0⟩) [b] (oldC s ini fin T) w
theorem wp_region_old {id : Nat} {Q : Exit → Act → World → Prop} (b s : Nat) (ini fin : Array Value) (T : TypeId) (hm : P.follows .mixedOrders = true) (hB : Region.lexB .any l.toArray = true) (h0 : hget w b = some (.cells ini T (0, 0)))
    (hg : (l[s]?.all fun o => o.guard.isNone) = true) (hs : s < l.length)
    (h : SepO l b s ini fin T w → wpO P l b s ini fin T w (fun a' => ∀ w', Out (fun e => e = b) w w' → hget w' b = some (.cells fin T (0, 0)) → Q .normal a' w') 0 l a) : (Code.region id l.toArray true).wp P Q a w := by
  have hsep : SepO l b s ini fin T w := ⟨fun p hp => absurd hp (by simp), fun p hp => absurd hp (by simp), fun p hp => absurd hp (by simp), fun e _ => by simp, fun e he f hf hfe => by
      rw [List.mem_singleton] at he hf
      exact absurd (hf.trans he.symm) hfe, fun e he => by
      rw [List.mem_singleton] at he
      subst he
      exact hget_lt h0, fun p hp => absurd hp (by simp), fun p hp => absurd hp (by simp), fun e he o ho => by
      rw [show l[(oldC s ini fin T e).st]? = l[s]? from rfl] at ho
      rw [ho] at hg
      simpa using hg⟩
  refine wp_region_var [] (fun _ => ⟨0, #[], #[], 0⟩) [b] (oldC s ini fin T) hm hB rfl hsep (fun e he => by
    rw [List.mem_singleton] at he
    subst he
    exact h0) (fun hs2 => ?_) (fun e _ => hs)
  refine wpGho_mono (fun a' ha' => ?_) _ _ _ (h hs2)
  intro g x hx _ _ _
  exact ha' x.w' (x.h.mono fun e _ he => by simpa using he) (hx b (by simp))
theorem wpO_plain (hsep : SepO l b s ini fin T w) (hsel : isSelect o = false) (hs : (s != i) = true)
    (h : ∀ K : Act → Prop, (∀ a, wpO P l b s ini fin T w Q (i + 1) rest a → K a) →
      if Region.wanted o (yielded l.toArray a.tmps) then ∃ v, (∀ x : LaterO b w, gOut P x.w' (fun u _ => u = v) ((execOp a.eval o).run P x.w')) ∧ K (a.put o.dst v) else K (a.put o.dst undef)) :
    wpO P l b s ini fin T w Q i (o :: rest) a :=
  wpV_plain hsep rfl rfl hsel rfl (fun _ he => absurd he (by simp)) (fun e he => by simpa [oldC] using hs) h
theorem wpO_store (hsep : SepO l b s ini fin T w) (hst : (s == i) = true) (hg : o.guard = none) (hsel : isSelect o = false)
    (h : ∀ K : Act → Prop, (∀ a, wpO P l b s ini fin T w Q (i + 1) rest a → K a) →
      (∀ (x : World) (cs : Array Value), (cs = ini ∨ cs = fin) → hget x b = some (.cells cs T (0, 0)) → (execOp a.eval o).run P x = .ok .skip (blk x b (.cells fin T (0, 0)))) ∧ K (a.put o.dst undef)) :
    wpO P l b s ini fin T w Q i (o :: rest) a :=
  wpV_storeOld b (by simp) (by simpa [oldC] using hst) hsep rfl rfl hg hsel rfl h
end

end Go.Proofs.Ytliblhfabnjpkaa
