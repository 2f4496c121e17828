/- A region that draws its order, in which operations make memory wherever they come: where their blocks lie hangs on the order, what is reckoned of what they hold does not. One walk in the order of the text. A region that draws its order and whose last operation waits for all the others: the others by whatever law, then the last. -/
import Derived.Test.YtliblhfabnjpkaaM01
import Derived.Test.YtliblhfabnjpkaaM06
namespace Go.Proofs.Ytliblhfabnjpkaa
open Go Go.RowKit

section
variable {P : Program} {ops : Array Oper} {pv : List Nat} {Rel : Nat → Value → World → Prop} {C : World → Prop}

def dstOf (ops : Array Oper) (i : Nat) : Option Tmp := (ops[i]?).bind (·.dst)
def waitsB (o : Oper) (p : Nat) : Bool := o.after.any fun e => Region.binds .any e && e.on == p
def readsB (o : Oper) (d : Option Tmp) : Bool := match d with
  | some t => o.op.operands.toList.any fun x => match x with | .tmp s => s == t | _ => false
  | none => false
/-- The places of the private operations: their own, read by those alone that wait for them. -/
def privB (ops : Array Oper) (pv : List Nat) : Bool := pv.all fun p => (match ops[p]? with | some o => o.dst.isSome && o.guard.isNone | none => false) &&
  (List.range ops.size).all fun j => match ops[j]? with
    | none => true
    | some oj => (j == p || oj.dst != dstOf ops p) && (!readsB oj (dstOf ops p) || waitsB oj p) && (match oj.guard with | some (gi, _) => gi != p | none => true)
structure Priv (ops : Array Oper) (pv : List Nat) : Prop where
  has : ∀ p ∈ pv, ∃ (o : Oper) (t : Tmp), ops[p]? = some o ∧ o.dst = some t ∧ o.guard = none
  own : ∀ p ∈ pv, ∀ (j : Nat) (oj : Oper), ops[j]? = some oj → j ≠ p → oj.dst ≠ dstOf ops p
  read : ∀ p ∈ pv, ∀ (j : Nat) (oj : Oper) (t : Tmp), ops[j]? = some oj → dstOf ops p = some t → .tmp t ∈ oj.op.operands → waitsB oj p = true
  guard : ∀ p ∈ pv, ∀ (j : Nat) (oj : Oper) (gi : Nat) (b : Bool), ops[j]? = some oj → oj.guard = some (gi, b) → gi ≠ p
theorem Priv.of (h : privB ops pv = true) : Priv ops pv := by
  unfold privB at h
  rw [List.all_eq_true] at h
  have each : ∀ p ∈ pv, ∀ j oj, ops[j]? = some oj → (j = p ∨ oj.dst ≠ dstOf ops p) ∧ (readsB oj (dstOf ops p) = false ∨ waitsB oj p = true) ∧ (∀ gi b, oj.guard = some (gi, b) → gi ≠ p) := fun p hp j oj hj => by
    have h1 := h p hp
    rw [Bool.and_eq_true, List.all_eq_true] at h1
    have h2 := h1.2 j (List.mem_range.2 (Array.getElem?_eq_some_iff.1 hj).1)
    rw [hj] at h2
    simp only [Bool.and_eq_true, Bool.or_eq_true, beq_iff_eq, bne_iff_ne, ne_eq, Bool.not_eq_true'] at h2
    refine ⟨h2.1.1, h2.1.2, fun gi b hg => ?_⟩
    have h3 := h2.2
    rw [hg] at h3
    simpa using h3
  refine ⟨fun p hp => ?_, fun p hp j oj hj hne => ((each p hp j oj hj).1).resolve_left hne, fun p hp j oj t hj hd hx => ?_, fun p hp j oj gi b hj hg => (each p hp j oj hj).2.2 gi b hg⟩
  · have h1 := h p hp
    rw [Bool.and_eq_true] at h1
    cases ho : ops[p]? with
    | none => rw [ho] at h1; simp at h1
    | some o =>
      rw [ho] at h1
      simp only [Bool.and_eq_true, Option.isSome_iff_exists, Option.isNone_iff_eq_none] at h1
      obtain ⟨⟨⟨t, ht⟩, hg⟩, _⟩ := h1
      exact ⟨o, t, rfl, ht, hg⟩
  · rcases (each p hp j oj hj).2.1 with h1 | h1
    · exfalso
      rw [hd] at h1
      unfold readsB at h1
      simp only [] at h1
      rw [List.any_eq_false] at h1
      exact h1 (.tmp t) (by simpa using hx) (by simp)
    · exact h1

def over (ops : Array Oper) : List Nat → (Nat → Value) → Act → Act
  | [], _, a => a
  | p :: r, g, a => over ops r g (a.put (dstOf ops p) (g p))
/-- What stands in a temporary, once the private ones of S are laid over. -/
def valAt (ops : Array Oper) (pv : List Nat) (S : Nat → Bool) (g : Nat → Value) (a : Act) (t : Nat) : Value :=
  match pv.find? fun p => S p && dstOf ops p == some t with
  | some p => g p
  | none => a.tmps.getD t undef
structure Real (ops : Array Oper) (pv : List Nat) (S : Nat → Bool) (g : Nat → Value) (a r : Act) : Prop where
  defers : r.defers = a.defers
  size : r.tmps.size = a.tmps.size
  at_ : ∀ t, t < a.tmps.size → r.tmps.getD t undef = valAt ops pv S g a t
theorem put_size (a : Act) (d : Option Tmp) (v : Value) : (a.put d v).tmps.size = a.tmps.size := by cases d <;> simp [Act.put]
theorem put_defers (a : Act) (d : Option Tmp) (v : Value) : (a.put d v).defers = a.defers := by cases d <;> rfl
theorem put_get (a : Act) (d t : Nat) (v : Value) (h : t < a.tmps.size) : (a.put (some d) v).tmps.getD t undef = if d = t then v else a.tmps.getD t undef := by
  simp only [Act.put, Array.getD_eq_getD_getElem?, Array.getElem?_setIfInBounds]
  by_cases hd : d = t
  · subst hd; simp [h]
  · simp [hd]
theorem put_get_ne (a : Act) (d : Option Tmp) (t : Nat) (v : Value) (h : d ≠ some t) : (a.put d v).tmps.getD t undef = a.tmps.getD t undef := by
  cases d with
  | none => rfl
  | some d =>
    simp only [Act.put, Array.getD_eq_getD_getElem?, Array.getElem?_setIfInBounds]
    rw [if_neg (fun e => h (by rw [e]))]
theorem find_congr (f f' : Nat → Bool) : ∀ l : List Nat, (∀ p ∈ l, f p = f' p) → l.find? f = l.find? f'
  | [], _ => rfl
  | p :: r, h => by
    rw [List.find?_cons, List.find?_cons, h p (by simp), find_congr f f' r (fun q hq => h q (by simp [hq]))]
theorem over_size (g : Nat → Value) : ∀ (l : List Nat) (a : Act), (over ops l g a).tmps.size = a.tmps.size
  | [], _ => rfl
  | p :: r, a => by rw [over, over_size g r, put_size]
theorem over_defers (g : Nat → Value) : ∀ (l : List Nat) (a : Act), (over ops l g a).defers = a.defers
  | [], _ => rfl
  | p :: r, a => by rw [over, over_defers g r, put_defers]
theorem over_val (g : Nat → Value) (hd : ∀ p q, p ∈ pv → q ∈ pv → ∀ t, dstOf ops p = some t → dstOf ops q = some t → p = q) : ∀ (l : List Nat), (∀ p ∈ l, p ∈ pv) → ∀ (a : Act) (t : Nat), t < a.tmps.size →
    (over ops l g a).tmps.getD t undef = valAt ops l (fun _ => true) g a t
  | [], _, a, t, _ => rfl
  | p :: r, hl, a, t, ht => by
    rw [over, over_val g hd r (fun q hq => hl q (by simp [hq])) _ t (by rw [put_size]; exact ht)]
    unfold valAt
    simp only [Bool.true_and, List.find?_cons]
    by_cases hp : dstOf ops p = some t
    · rw [hp]
      simp only [beq_self_eq_true]
      cases hf : r.find? fun p => dstOf ops p == some t with
      | some q =>
        have h1 := List.find?_some hf
        have h2 := List.mem_of_find?_eq_some hf
        rw [hd p q (hl p (by simp)) (hl q (by simp [h2])) t hp (by simpa using h1)]
      | none => simp only []; rw [put_get a t t _ ht, if_pos rfl]
    · have hb : (dstOf ops p == some t) = false := by simpa using hp
      rw [hb]
      simp only []
      cases hf : r.find? fun p => dstOf ops p == some t with
      | some q => rfl
      | none => simp only []; exact put_get_ne a _ t _ hp
theorem Priv.dist (h : Priv ops pv) : ∀ p q, p ∈ pv → q ∈ pv → ∀ t, dstOf ops p = some t → dstOf ops q = some t → p = q := fun p q hp hq t h1 h2 => by
  apply Classical.byContradiction
  intro hne
  obtain ⟨o, s, ho, hd, _⟩ := h.has q hq
  have := h.own p hp q o ho (fun e => hne e.symm)
  rw [h1] at this
  apply this
  unfold dstOf at h2
  rw [ho] at h2
  exact h2
theorem Real.all (h : Priv ops pv) {g : Nat → Value} {a r : Act} {S : Nat → Bool} (hS : ∀ p ∈ pv, S p = true) (hr : Real ops pv S g a r) : r = over ops pv g a := by
  have e : ∀ t, valAt ops pv S g a t = valAt ops pv (fun _ => true) g a t := fun t => by
    unfold valAt
    have : (pv.find? fun p => S p && dstOf ops p == some t) = pv.find? fun p => true && dstOf ops p == some t := find_congr _ _ _ fun p hp => by rw [hS p hp]
    rw [this]
  have ht : r.tmps = (over ops pv g a).tmps := by
    apply Array.ext
    · rw [hr.size, over_size]
    · intro t h1 h2
      have h3 : t < a.tmps.size := by rw [← hr.size]; exact h1
      have h4 := hr.at_ t h3
      rw [e t, ← over_val g h.dist pv (fun _ h => h) a t h3] at h4
      simpa [h1, h2] using h4
  have hdf : r.defers = (over ops pv g a).defers := by rw [hr.defers, over_defers]
  cases r; cases hx : over ops pv g a
  rw [hx] at ht hdf
  simp only [] at ht hdf
  rw [ht, hdf]

def gOut (P : Program) (w : World) (ok : Value → World → Prop) : Result Next → Prop
  | .ok (.value u) x => Below w.heap.size w x ∧ ok u x
  | .ok .skip x => Below w.heap.size w x ∧ ok undef x
  | .ok (.enter f args) x => x = w ∧ Calls P f args w (fun e w'' => ∃ u, e = .returned u ∧ Below w.heap.size w w'' ∧ ok u w'')
  | _ => False
/-- It reads what operation p made, and waits for it. -/
def usesB (ops : Array Oper) (o : Oper) (p : Nat) : Bool := waitsB o p && readsB o (dstOf ops p)
/-- As 'gOut', with nothing asked of the blocks. -/
def gRaw (P : Program) (w : World) (ok : Value → World → Prop) : Result Next → Prop
  | .ok (.value u) x => ok u x
  | .ok .skip x => ok undef x
  | .ok (.enter f args) x => x = w ∧ Calls P f args w (fun e w'' => ∃ u, e = .returned u ∧ ok u w'')
  | _ => False
theorem gRaw_of_gOut {w : World} {ok : Value → World → Prop} {r : Result Next} (h : gOut P w ok r) : gRaw P w (fun u x => Below w.heap.size w x ∧ ok u x) r := by
  cases r with
  | ok n x => cases n <;> simp only [gOut] at h <;> simp only [gRaw] <;> exact h
  | halt x w' => simp only [gOut] at h
theorem gRaw_mono {w : World} {ok ok' : Value → World → Prop} (h : ∀ u x, ok u x → ok' u x) {r : Result Next} (hr : gRaw P w ok r) : gRaw P w ok' r := by
  cases r with
  | ok n x =>
    cases n <;> simp only [gRaw] at hr ⊢
    case value u => exact h _ _ hr
    case skip => exact h _ _ hr
    case enter f args => exact ⟨hr.1, hr.2.mono fun e w'' ⟨u, he, hok⟩ => ⟨u, he, h _ _ hok⟩⟩
  | halt x w' => simp only [gRaw] at hr
abbrev PostT := Nat → Value → (Nat → Value) → World → Value → World → Prop
/-- What an operation leaves, where none stores. -/
def Post1 (pv : List Nat) (Rel : Nat → Value → World → Prop) : PostT := fun i v _ w u x => Below w.heap.size w x ∧ (if i ∈ pv then Rel i u x else u = v)
def GAsked (P : Program) (ops : Array Oper) (pv : List Nat) (Rel : Nat → Value → World → Prop) (C : World → Prop) (Post : PostT) (i : Nat) (o : Oper) (v : Value) (a : Act) : Prop :=
  ∀ g w, C w → (∀ p ∈ pv, usesB ops o p = true → Rel p (g p) w) → gRaw P w (Post i v g w) ((execOp (over ops pv g a).eval o).run P w)
def GDoes (P : Program) (ops : Array Oper) (pv : List Nat) (Rel : Nat → Value → World → Prop) (C : World → Prop) (Post : PostT) (i : Nat) (o : Oper) (v : Value) (a : Act) : Prop :=
  (Region.wanted o (yielded ops a.tmps) = true ∧ GAsked P ops pv Rel C Post i o v a) ∨ (Region.wanted o (yielded ops a.tmps) = false ∧ v = undef)
def wpGho (P : Program) (ops : Array Oper) (pv : List Nat) (Rel : Nat → Value → World → Prop) (C : World → Prop) (Post : PostT) (Q : Act → Prop) : Nat → List Oper → Act → Prop
  | _, [], a => Q a
  | i, o :: rest, a => ∃ v, GDoes P ops pv Rel C Post i o v a ∧ wpGho P ops pv Rel C Post Q (i + 1) rest (a.put o.dst v)
def gOp (P : Program) (ops : Array Oper) (pv : List Nat) (Rel : Nat → Value → World → Prop) (C : World → Prop) (Post : PostT) (i : Nat) (K : Act → Prop) (a : Act) : Prop :=
  match ops[i]? with
  | none => K a
  | some o => ∃ v, GDoes P ops pv Rel C Post i o v a ∧ K (a.put o.dst v)
variable {Post : PostT}
theorem gOp_mono {i : Nat} {a : Act} {K K' : Act → Prop} (h : ∀ a, K a → K' a) (hh : gOp P ops pv Rel C Post i K a) : gOp P ops pv Rel C Post i K' a := by
  unfold gOp at *
  split
  · exact h _ (by simpa [*] using hh)
  · rename_i o ho
    simp only [ho] at hh
    obtain ⟨v, h1, h2⟩ := hh
    exact ⟨v, h1, h _ h2⟩
def wpAnyG (P : Program) (ops : Array Oper) (pv : List Nat) (Rel : Nat → Value → World → Prop) (C : World → Prop) (Post : PostT) (Q : Array Bool → Act → Prop) : Nat → Array Bool → Act → Prop
  | 0, listed, a => Region.ready .any ops listed = [] ∧ Q listed a
  | fuel + 1, listed, a =>
    (Region.ready .any ops listed = [] → Q listed a) ∧
    ∀ i ∈ Region.ready .any ops listed, gOp P ops pv Rel C Post i (wpAnyG P ops pv Rel C Post Q fuel (listed.setIfInBounds i true)) a
/-- What an operation reads, whether a temporary that it does not look at was turned or not. -/
theorem over_put_exec (h : Priv ops pv) {j : Nat} {oj : Oper} (_hj : ops[j]? = some oj) (hs : ∀ cs b, oj.op ≠ .select cs b) (g : Nat → Value) (a : Act) (d : Option Tmp) (v : Value) (hl : ∀ t, d = some t → t ∉ oj.looksAt ops) :
    execOp (over ops pv g (a.put d v)).eval oj = execOp (over ops pv g a).eval oj := by
  refine execOp_congr oj hs fun x hx => ?_
  cases x with
  | tmp t =>
    show (over ops pv g (a.put d v)).tmps.getD t undef = (over ops pv g a).tmps.getD t undef
    have hne : d ≠ some t := fun e => hl t e (List.mem_append_left _ (List.mem_filterMap.2 ⟨.tmp t, by simpa using hx, rfl⟩))
    by_cases ht : t < a.tmps.size
    · have q1 := over_val g h.dist pv (fun _ h => h) (a.put d v) t (by rw [put_size]; exact ht)
      have q2 := over_val g h.dist pv (fun _ h => h) a t ht
      rw [q1, q2]
      unfold valAt
      cases pv.find? fun p => true && dstOf ops p == some t with
      | some q => rfl
      | none => exact put_get_ne a d t v hne
    · have s1 := over_size (ops := ops) g pv (a.put d v)
      have s2 := over_size (ops := ops) g pv a
      rw [put_size] at s1
      have e1 : (over ops pv g (a.put d v)).tmps.size ≤ t := by rw [s1]; exact Nat.not_lt.1 ht
      have e2 : (over ops pv g a).tmps.size ≤ t := by rw [s2]; exact Nat.not_lt.1 ht
      simp [Array.getElem?_eq_none (xs := (over ops pv g (a.put d v)).tmps) (i := t) e1, Array.getElem?_eq_none (xs := (over ops pv g a).tmps) (i := t) e2]
  | _ => rfl
theorem GDoes.of_put (h : Priv ops pv) {i : Nat} {o : Oper} (hi : ops[i]? = some o) (hs : ∀ cs b, o.op ≠ .select cs b) {v u : Value} {a : Act} {d : Option Tmp} (hl : ∀ t, d = some t → t ∉ o.looksAt ops) :
    GDoes P ops pv Rel C Post i o v (a.put d u) ↔ GDoes P ops pv Rel C Post i o v a := by
  unfold GDoes GAsked
  rw [wanted_put o a d u hl]
  constructor
  · rintro (⟨h1, h2⟩ | h1)
    · refine .inl ⟨h1, fun g w hw hR => ?_⟩
      have h3 := h2 g w hw hR
      rwa [over_put_exec h hi hs g a d u hl] at h3
    · exact .inr h1
  · rintro (⟨h1, h2⟩ | h1)
    · refine .inl ⟨h1, fun g w hw hR => ?_⟩
      rw [over_put_exec h hi hs g a d u hl]
      exact h2 g w hw hR
    · exact .inr h1
theorem gOp_put (h : Priv ops pv) {i j : Nat} {oi oj : Oper} {v : Value} (hi : ops[i]? = some oi) (hj : ops[j]? = some oj) (hap : oi.apart ops oj = true)
    (hsi : ∀ cs b, oi.op ≠ .select cs b) (hsj : ∀ cs b, oj.op ≠ .select cs b) {K : Act → Prop} {a : Act}
    (hy : GDoes P ops pv Rel C Post i oi v a) (hh : gOp P ops pv Rel C Post j K (a.put oi.dst v)) :
    gOp P ops pv Rel C Post j (fun a' => GDoes P ops pv Rel C Post i oi v a' ∧ K (a'.put oi.dst v)) a := by
  obtain ⟨h1, h2, h3⟩ := Oper.apart_spec hap
  have hj2 := hj
  unfold gOp at *
  simp only [hj] at hh ⊢
  obtain ⟨u, hu, hn⟩ := hh
  refine ⟨u, (GDoes.of_put h hj2 hsj h1).1 hu, (GDoes.of_put h hi hsi h3).2 hy, ?_⟩
  rw [← Act.put_comm a v u h2]
  exact hn
theorem wpAnyG_first (h : Priv ops pv) {Q : Array Bool → Act → Prop} {i : Nat} {oi : Oper} {v : Value} (hi : ops[i]? = some oi) (hsel : ∀ (j : Nat) (o : Oper) cs b, ops[j]? = some o → o.op ≠ .select cs b) :
    ∀ (fuel : Nat) (listed : Array Bool) (a : Act),
      (∀ j oj, ops[j]? = some oj → j ≠ i → listed.getD j true = false → (∀ e ∈ oj.after, Region.binds .any e = true → e.on ≠ i) → oi.apart ops oj = true) →
      i ∈ Region.ready .any ops listed → GDoes P ops pv Rel C Post i oi v a →
      wpAnyG P ops pv Rel C Post Q fuel (listed.setIfInBounds i true) (a.put oi.dst v) → wpAnyG P ops pv Rel C Post Q (fuel + 1) listed a := by
  intro fuel
  have take : ∀ {K : Act → Prop} {a : Act}, GDoes P ops pv Rel C Post i oi v a → K (a.put oi.dst v) → gOp P ops pv Rel C Post i K a := fun hy h => by
    unfold gOp; simp only [hi]; exact ⟨v, hy, h⟩
  induction fuel with
  | zero =>
    intro listed a _ hr hy H
    refine ⟨fun h => (by rw [h] at hr; cases hr), fun j hj => ?_⟩
    by_cases hji : j = i
    · subst hji; exact take hy H
    · have := ready_mono hj hji
      rw [H.1] at this
      cases this
  | succ fuel ih =>
    intro listed a hfree hr hy H
    refine ⟨fun h => (by rw [h] at hr; cases hr), fun j hj => ?_⟩
    by_cases hji : j = i
    · subst hji; exact take hy H
    · have h1 := H.2 j (ready_mono hj hji)
      obtain ⟨hjun, oj, hoj, hall⟩ := mem_ready.1 hj
      have hnot : ∀ e ∈ oj.after, Region.binds .any e = true → e.on ≠ i := fun e he hb heq => by
        have h1 := hall e he hb
        have h0 := (mem_ready.1 hr).1
        rw [heq] at h1
        rcases Nat.lt_or_ge i listed.size with h' | h'
        · simp [h'] at h0 h1; rw [h0] at h1; cases h1
        · simp [Array.getElem?_eq_none h'] at h1
      have h2 := gOp_put h hi hoj (hfree j oj hoj hji hjun hnot) (fun cs b => hsel i oi cs b hi) (fun cs b => hsel j oj cs b hoj) hy h1
      have hfree' : ∀ m om, ops[m]? = some om → m ≠ i → (listed.setIfInBounds j true).getD m true = false →
          (∀ e ∈ om.after, Region.binds .any e = true → e.on ≠ i) → oi.apart ops om = true := fun m om hm hmi hun hno => by
        refine hfree m om hm hmi ?_ hno
        by_cases hjm : j = m
        · subst hjm; exact hjun
        · rw [getD_set_ne true hjm] at hun; exact hun
      refine gOp_mono (fun a' h3 => ih (listed.setIfInBounds j true) a' hfree' (ready_mono hr (Ne.symm hji)) h3.1 ?_) h2
      rw [Array.setIfInBounds_comm _ _ hji]
      exact h3.2
theorem wpAnyG_lex (h : Priv ops pv) {Q : Act → Prop} (hs : Region.noSelect ops = true) : ∀ (l : List Oper) (m : Nat) (listed : Array Bool) (a : Act), (∀ j, l[j]? = ops[m + j]?) → listed.size = ops.size → (∀ j, j < m → j < ops.size → listed.getD j false = true) →
    Region.lexFrom .any ops l.length m listed = true → wpGho P ops pv Rel C Post Q m l a → wpAnyG P ops pv Rel C Post (fun listed a => (∀ s, s < ops.size → listed.getD s false = true) ∧ Q a) l.length listed a
  | [], m, listed, _, hl, hz, hd, hB, hh => ⟨by simpa [Region.lexFrom] using hB, fun s hsz => hd s (by
      rcases Nat.lt_or_ge s m with h1 | h1
      · exact h1
      · have := hl (s - m)
        rw [show m + (s - m) = s by omega, Array.getElem?_eq_getElem hsz] at this
        cases this) hsz, hh⟩
  | o :: l, m, listed, a, hl, hz, hd, hB, hh => by
    have h0 : ops[m]? = some o := by simpa using (hl 0).symm
    have hml : m < ops.size := (Array.getElem?_eq_some_iff.1 h0).1
    simp only [List.length_cons, Region.lexFrom, Bool.and_eq_true] at hB
    obtain ⟨⟨hr, hf⟩, hB'⟩ := hB
    obtain ⟨v, hy, hK⟩ := hh
    refine wpAnyG_first h h0 (Region.noSelect_spec hs) l.length listed a (Region.free_spec h0 hf) (by simpa using hr) hy
      (wpAnyG_lex h hs l (m + 1) _ _ (fun j => by have := hl (j + 1); simpa [Nat.add_assoc, Nat.add_comm 1 j] using this) (by simpa using hz) (fun j hj hjs => ?_) hB' hK)
    by_cases hjm : j = m
    · subst hjm; simp [hz, hml]
    · exact getD_set_true (hd j (by omega) hjs)
theorem valAt_congr {S S' : Nat → Bool} {g g' : Nat → Value} {a a' : Act} {t : Nat} (h1 : ∀ p ∈ pv, dstOf ops p = some t → S p = S' p ∧ (S p = true → g p = g' p)) (h2 : a.tmps.getD t undef = a'.tmps.getD t undef) : valAt ops pv S g a t = valAt ops pv S' g' a' t := by
  unfold valAt
  have e : (pv.find? fun p => S p && dstOf ops p == some t) = pv.find? fun p => S' p && dstOf ops p == some t := find_congr _ _ _ fun p hp => by
    by_cases hd : dstOf ops p = some t
    · rw [(h1 p hp hd).1]
    · have : (dstOf ops p == some t) = false := by simpa using hd
      rw [this, Bool.and_false, Bool.and_false]
  rw [← e]
  cases hf : pv.find? fun p => S p && dstOf ops p == some t with
  | some q =>
    have h3 := List.find?_some hf
    simp only [Bool.and_eq_true, beq_iff_eq] at h3
    exact (h1 q (List.mem_of_find?_eq_some hf) h3.2).2 h3.1
  | none => exact h2
theorem real_exec (h : Priv ops pv) {j : Nat} {oj : Oper} (hj : ops[j]? = some oj) (hs : ∀ cs b, oj.op ≠ .select cs b) {S : Nat → Bool} {g : Nat → Value} {a r : Act} (hr : Real ops pv S g a r) (hw : ∀ p ∈ pv, waitsB oj p = true → S p = true) :
    execOp r.eval oj = execOp (over ops pv g a).eval oj := by
  refine execOp_congr oj hs fun x hx => ?_
  cases x with
  | tmp t =>
    show r.tmps.getD t undef = (over ops pv g a).tmps.getD t undef
    by_cases ht : t < a.tmps.size
    · rw [hr.at_ t ht, over_val g h.dist pv (fun _ h => h) a t ht]
      refine valAt_congr (fun p hp hd => ?_) rfl
      have := hw p hp (h.read p hp j oj t hj hd hx)
      rw [this]; exact ⟨rfl, fun _ => rfl⟩
    · have e1 : r.tmps.size ≤ t := by rw [hr.size]; exact Nat.not_lt.1 ht
      have e2 : (over ops pv g a).tmps.size ≤ t := by rw [over_size]; exact Nat.not_lt.1 ht
      simp [Array.getElem?_eq_none (xs := r.tmps) (i := t) e1, Array.getElem?_eq_none (xs := (over ops pv g a).tmps) (i := t) e2]
  | _ => rfl
theorem real_wanted (h : Priv ops pv) {j : Nat} {oj : Oper} (hj : ops[j]? = some oj) {S : Nat → Bool} {g : Nat → Value} {a r : Act} (hr : Real ops pv S g a r) :
    Region.wanted oj (yielded ops r.tmps) = Region.wanted oj (yielded ops a.tmps) := by
  unfold Region.wanted
  cases hg : oj.guard with
  | none => rfl
  | some gw =>
    obtain ⟨gi, want⟩ := gw
    have hy : yielded ops r.tmps gi = yielded ops a.tmps gi := by
      unfold yielded
      cases ht : (ops[gi]?).bind (·.dst) with
      | none => rfl
      | some t =>
        have hn : ∀ p ∈ pv, dstOf ops p ≠ some t := fun p hp hd => by
          cases ho : ops[gi]? with
          | none => rw [ho] at ht; cases ht
          | some og =>
            have h1 := h.own p hp gi og ho (h.guard p hp j oj gi want hj hg)
            rw [ho] at ht
            exact h1 (by rw [hd]; exact ht)
        have e : r.tmps[t]? = a.tmps[t]? := by
          by_cases hlt : t < a.tmps.size
          · have h2 := hr.at_ t hlt
            have h3 : valAt ops pv S g a t = a.tmps.getD t undef := by
              unfold valAt
              cases hf : pv.find? fun p => S p && dstOf ops p == some t with
              | some q =>
                have h4 := List.find?_some hf
                simp only [Bool.and_eq_true, beq_iff_eq] at h4
                exact absurd h4.2 (hn q (List.mem_of_find?_eq_some hf))
              | none => rfl
            rw [h3] at h2
            have hlr : t < r.tmps.size := by rw [hr.size]; exact hlt
            rw [Array.getElem?_eq_getElem hlr, Array.getElem?_eq_getElem hlt]
            simpa [hlr, hlt] using h2
          · rw [Array.getElem?_eq_none (by rw [hr.size]; exact Nat.not_lt.1 hlt), Array.getElem?_eq_none (Nat.not_lt.1 hlt)]
        simp [e]
    simp only [hy]
/-- An operation has put its value. -/
theorem Real.step (h : Priv ops pv) {i : Nat} {o : Oper} (hi : ops[i]? = some o) {S S' : Nat → Bool} (hS : S' i = true) (hS2 : ∀ p, p ≠ i → S' p = S p) {g : Nat → Value} {a r : Act} (hr : Real ops pv S g a r) (v u : Value) (g' : Nat → Value) (hg : ∀ p, p ≠ i → g' p = g p)
    (hv : if i ∈ pv then g' i = u else u = v) : Real ops pv S' g' (a.put o.dst v) (r.put o.dst u) := by
  have hdi : dstOf ops i = o.dst := by unfold dstOf; rw [hi]; rfl
  refine ⟨by rw [put_defers, put_defers, hr.defers], by rw [put_size, put_size, hr.size], fun t ht => ?_⟩
  rw [put_size] at ht
  by_cases hd : o.dst = some t
  · rw [hd, put_get r t t u (by rw [hr.size]; exact ht), if_pos rfl]
    by_cases hip : i ∈ pv
    · rw [if_pos hip] at hv
      unfold valAt
      cases hf : pv.find? fun p => S' p && dstOf ops p == some t with
      | some q =>
        have h4 := List.find?_some hf
        simp only [Bool.and_eq_true, beq_iff_eq] at h4
        have : i = q := h.dist i q hip (List.mem_of_find?_eq_some hf) t (hdi.trans hd) h4.2
        subst this
        exact hv.symm
      | none =>
        rw [List.find?_eq_none] at hf
        exact absurd (by simp [hS, hdi, hd]) (hf i hip)
    · rw [if_neg hip] at hv
      unfold valAt
      cases hf : pv.find? fun p => S' p && dstOf ops p == some t with
      | some q =>
        have h4 := List.find?_some hf
        simp only [Bool.and_eq_true, beq_iff_eq] at h4
        have hq := List.mem_of_find?_eq_some hf
        have := h.own q hq i o hi (fun e => hip (e ▸ hq))
        exact absurd (by rw [hd, h4.2]) this
      | none => simp only []; rw [put_get a t t v ht, if_pos rfl]; exact hv
  · rw [put_get_ne r o.dst t u hd, hr.at_ t ht]
    refine valAt_congr (fun p hp hdp => ?_) (put_get_ne a o.dst t v hd).symm
    have hpi : p ≠ i := fun e => hd (by rw [← hdi, ← e]; exact hdp)
    rw [hS2 p hpi, hg p hpi]
    exact ⟨rfl, fun _ => rfl⟩
theorem wp_of_gRaw {o : Oper} {r : Act} {w : World} {ok : Value → World → Prop} {K' : Act → World → Prop} {Q' : Exit → Act → World → Prop} {e : Sem Next} (he : execOp r.eval o = e) (hg : gRaw P w ok (e.run P w)) (h : ∀ u x, ok u x → K' (r.put o.dst u) x) : o.wp P r w K' Q' := by
  unfold Oper.wp
  rw [he]
  generalize e.run P w = z at *
  cases z with
  | ok n x =>
    cases n <;> simp only [gRaw] at hg <;> simp only [Oper.upon]
    case value u => exact h _ _ hg
    case skip => exact h _ _ hg
    case enter f args =>
      obtain ⟨rfl, hc⟩ := hg
      exact hc.mono fun e w'' ⟨u, he, hok⟩ => by subst he; exact h _ _ hok
  | halt x w' => simp only [gRaw] at hg
/-- Operation s comes behind all that reads what private operations made, and behind those. -/
def pathB (ops : Array Oper) (i : Nat) : Nat → Nat → Bool
  | 0, _ => false
  | f + 1, s => match ops[s]? with
    | none => false
    | some o => o.after.any fun e => Region.binds .any e && (e.on == i || pathB ops i f e.on)
theorem path_listed {listed : Array Bool} (hc : Closed .any ops listed) (i : Nat) : ∀ (f s : Nat), pathB ops i f s = true → listed.getD s false = true → listed.getD i false = true
  | 0, _, h, _ => by cases h
  | f + 1, s, h, hl => by
    unfold pathB at h
    cases ho : ops[s]? with
    | none => rw [ho] at h; cases h
    | some o =>
      rw [ho] at h
      obtain ⟨e, he, hb⟩ := Array.any_eq_true'.1 h
      simp only [Bool.and_eq_true, Bool.or_eq_true, beq_iff_eq] at hb
      have h1 := hc s o ho hl e he hb.1
      rcases hb.2 with h2 | h2
      · rw [← h2]; exact h1
      · exact path_listed hc i f e.on h2 h1
theorem wpAny_of_gho (h : Priv ops pv) (hsel : ∀ (j : Nat) (o : Oper) cs b, ops[j]? = some o → o.op ≠ .select cs b) {Q : Act → Prop} {Q' : Exit → Act → World → Prop} (s : Nat) (Rel2 : (Nat → Value) → World → Prop)
    (hs : s ∉ pv) (hsg : ∀ o, ops[s]? = some o → o.guard = none) (hpath : ∀ listed, listed.size = ops.size → Closed .any ops listed → listed.getD s false = true → ∀ i o, ops[i]? = some o → i ≠ s → (i ∈ pv ∨ ∃ p ∈ pv, usesB ops o p = true) → listed.getD i false = true)
    (hC : ∀ w w', C w → Below w.heap.size w w' → C w') (hR : ∀ p u w w', Rel p u w → Below w.heap.size w w' → Rel p u w') (hR2 : ∀ g w w', Rel2 g w → Below w.heap.size w w' → Rel2 g w')
    (hP1 : ∀ i v g w u x, i ≠ s → Post i v g w u x → Below w.heap.size w x ∧ (if i ∈ pv then Rel i u x else u = v)) (hP2 : s < ops.size → ∀ v g w u x, Post s v g w u x → u = v ∧ C x ∧ Rel2 g x)
    (hQ : ∀ g a w, C w → (s < ops.size → Rel2 g w) → (ops.size ≤ s → ∀ p ∈ pv, Rel p (g p) w) → Q a → Q' .normal (over ops pv g a) w) :
    ∀ (fuel : Nat) (listed : Array Bool) (a : Act) (g : Nat → Value) (r : Act) (w : World), Closed .any ops listed → Real ops pv (fun p => listed.getD p false) g a r → C w → (listed.getD s false = true → Rel2 g w) → (listed.getD s false = false → ∀ p ∈ pv, listed.getD p false = true → Rel p (g p) w) →
    listed.size = ops.size →
    wpAnyG P ops pv Rel C Post (fun listed a => (∀ s, s < ops.size → listed.getD s false = true) ∧ Q a) fuel listed a → wpAny P .any ops Q' fuel listed r w := by
  have fin : ∀ (listed : Array Bool) (a : Act) (g : Nat → Value) (r : Act) (w : World), Real ops pv (fun p => listed.getD p false) g a r → C w → (listed.getD s false = true → Rel2 g w) → (listed.getD s false = false → ∀ p ∈ pv, listed.getD p false = true → Rel p (g p) w) → listed.size = ops.size →
      (∀ s, s < ops.size → listed.getD s false = true) → Q a → Q' .normal r w := fun listed a g r w hr hw h2 hrel hsz hall hq => by
    have hl : ∀ p ∈ pv, listed.getD p false = true := fun p hp => by
      obtain ⟨o, t, ho, _⟩ := h.has p hp
      exact hall p (Array.getElem?_eq_some_iff.1 ho).1
    rw [hr.all h hl]
    exact hQ g a w hw (fun hs => h2 (hall s hs)) (fun hs p hp => hrel (by simp [Array.getElem?_eq_none (xs := listed) (i := s) (by omega)]) p hp (hl p hp)) hq
  intro fuel
  induction fuel with
  | zero => intro listed a g r w _ hr hw h2 hrel hsz hh; exact ⟨hh.1, fin listed a g r w hr hw h2 hrel hsz hh.2.1 hh.2.2⟩
  | succ fuel ih =>
    intro listed a g r w hc hr hw hr2 hrel hsz hh
    refine ⟨fun h0 => fin listed a g r w hr hw hr2 hrel hsz (hh.1 h0).1 (hh.1 h0).2, fun i hi => ?_⟩
    have h2 := hh.2 i hi
    have hc2 := hc.set hi
    have hsz2 : (listed.setIfInBounds i true).size = ops.size := by simpa using hsz
    obtain ⟨hif, hil⟩ := getD_ft (mem_ready.1 hi).1
    have hS : (fun p => (listed.setIfInBounds i true).getD p false) i = true := by simp [hil]
    have hS2 : ∀ p, p ≠ i → (fun p => (listed.setIfInBounds i true).getD p false) p = (fun p => listed.getD p false) p := fun p hp => getD_set_ne false (Ne.symm hp)
    obtain ⟨_, o, ho, hall⟩ := mem_ready.1 hi
    unfold gOp at h2
    unfold wpOp
    simp only [ho] at h2 ⊢
    obtain ⟨v, hd, hK⟩ := h2
    rw [real_wanted h ho hr]
    rcases hd with ⟨hwt, hd⟩ | ⟨hwt, rfl⟩
    · rw [hwt, if_pos rfl]
      refine .inl ?_
      have hwl : ∀ p ∈ pv, waitsB o p = true → listed.getD p false = true := fun p hp hwp => by
        unfold waitsB at hwp
        obtain ⟨e, he, hb⟩ := Array.any_eq_true'.1 hwp
        simp only [Bool.and_eq_true, beq_iff_eq] at hb
        rw [← hb.2]; exact hall e he hb.1
      have hbefore : (i = s ∨ i ∈ pv ∨ ∃ p ∈ pv, usesB ops o p = true) → listed.getD s false = false := fun hx => by
        cases hl : listed.getD s false with
        | false => rfl
        | true =>
          by_cases his : i = s
          · subst his; rw [hif] at hl; cases hl
          · have := hpath listed hsz hc hl i o ho his (hx.resolve_left his)
            rw [hif] at this; cases this
      refine wp_of_gRaw (real_exec h ho (fun cs b => hsel i o cs b ho) hr hwl) (hd g w hw (fun p hp hwp => hrel (hbefore (.inr (.inr ⟨p, hp, hwp⟩))) p hp (hwl p hp (by unfold usesB at hwp; rw [Bool.and_eq_true] at hwp; exact hwp.1)))) fun u x hok => ?_
      by_cases his : i = s
      · subst his
        obtain ⟨e1, e2, e3⟩ := hP2 (Array.getElem?_eq_some_iff.1 ho).1 v g w u x hok
        refine ih _ _ g _ _ hc2 (hr.step h ho hS hS2 v u g (fun _ _ => rfl) (by rw [if_neg hs]; exact e1)) e2 (fun _ => e3) (fun hf => ?_) hsz2 hK
        have : (listed.setIfInBounds i true).getD i false = true := hS
        rw [this] at hf; cases hf
      · obtain ⟨hb, hok⟩ := hP1 i v g w u x his hok
        have hss : (listed.setIfInBounds i true).getD s false = listed.getD s false := getD_set_ne false his
        by_cases hip : i ∈ pv
        · rw [if_pos hip] at hok
          have hsf := hbefore (.inr (.inl hip))
          refine ih _ _ (fun p => if p = i then u else g p) _ _ hc2 (hr.step h ho hS hS2 v u _ (fun p hp => if_neg hp) (by rw [if_pos hip, if_pos rfl])) (hC w x hw hb) (fun hl => ?_) (fun _ p hp hl => ?_) hsz2 hK
          · rw [hss, hsf] at hl; cases hl
          · by_cases hpi : p = i
            · subst hpi; rw [if_pos rfl]; exact hok
            · rw [if_neg hpi]
              rw [getD_set_ne false (Ne.symm hpi)] at hl
              exact hR p _ w x (hrel hsf p hp hl) hb
        · rw [if_neg hip] at hok
          refine ih _ _ g _ _ hc2 (hr.step h ho hS hS2 v u g (fun _ _ => rfl) (by rw [if_neg hip]; exact hok)) (hC w x hw hb) (fun hl => hR2 g w x (hr2 (by rw [← hss]; exact hl)) hb) (fun hsf p hp hl => ?_) hsz2 hK
          have hpi : p ≠ i := fun e => hip (e ▸ hp)
          rw [getD_set_ne false (Ne.symm hpi)] at hl
          exact hR p _ w x (hrel (by rw [← hss]; exact hsf) p hp hl) hb
    · rw [hwt]
      have hip : i ∉ pv := fun hp => by
        obtain ⟨o2, t, ho2, _, hg⟩ := h.has i hp
        have : o2 = o := Option.some.inj (ho2.symm.trans ho)
        subst this
        unfold Region.wanted at hwt
        rw [hg] at hwt
        cases hwt
      by_cases his : i = s
      · subst his
        have hg := hsg o ho
        unfold Region.wanted at hwt
        rw [hg] at hwt
        cases hwt
      · have hss : (listed.setIfInBounds i true).getD s false = listed.getD s false := getD_set_ne false his
        refine ih _ _ g _ _ hc2 (hr.step h ho hS hS2 undef undef g (fun _ _ => rfl) (by rw [if_neg hip])) hw (fun hl => hr2 (by rw [← hss]; exact hl)) (fun hsf p hp hl => ?_) hsz2 hK
        have hpi : p ≠ i := fun e => hip (e ▸ hp)
        rw [getD_set_ne false (Ne.symm hpi)] at hl
        exact hrel (by rw [← hss]; exact hsf) p hp hl
/-- The law: what the private operations make is known by 'Rel' alone; all else is as in the order of the text. -/
theorem wp_region_gho {id : Nat} {Q : Exit → Act → World → Prop} {a : Act} {w : World} {l : List Oper} (pv : List Nat) (Rel : Nat → Value → World → Prop) (hm : P.follows .mixedOrders = true) (hB : Region.lexB .any l.toArray = true) (hP : privB l.toArray pv = true)
    (hR : ∀ p u w w', Rel p u w → Below w.heap.size w w' → Rel p u w')
    (h : wpGho P l.toArray pv Rel (fun w' => ∃ x : Later w, w' = x.w') (Post1 pv Rel) (fun a' => ∀ g w', (∃ x : Later w, w' = x.w') → (∀ p ∈ pv, Rel p (g p) w') → Q .normal (over l.toArray pv g a') w') 0 l a) : (Code.region id l.toArray true).wp P Q a w := by
  simp only [Region.lexB, Bool.and_eq_true] at hB
  refine wp_region_any hm ?_
  have hp := Priv.of hP
  have hx := wpAnyG_lex (P := P) (pv := pv) (Rel := Rel) (C := fun w' => ∃ x : Later w, w' = x.w') hp hB.1 l 0 (Array.replicate l.toArray.size false) a (by simp) (by simp) (fun j hj => absurd hj (Nat.not_lt_zero _)) (by simpa using hB.2) h
  have hf : ∀ m j, (Array.replicate m false).getD j false = false := fun m j => by
    rcases Nat.lt_or_ge j m with h | h
    · simp [h]
    · simp [h]
  have hy := wpAny_of_gho (P := P) (ops := l.toArray) (pv := pv) (Rel := Rel) (C := fun w' => ∃ x : Later w, w' = x.w') (Post := Post1 pv Rel) hp (Region.noSelect_spec hB.1) l.length (fun _ _ => True)
    (fun hm => by obtain ⟨o, _, ho, _⟩ := hp.has _ hm; simp at ho) (fun o ho => by simp at ho) (fun listed hz _ hl => by
      have hz' : listed.size = l.length := by simpa using hz
      simp [Array.getElem?_eq_none (xs := listed) (i := l.length) (by omega)] at hl) (fun w1 w2 ⟨x, hx⟩ hb => by
      subst hx; exact ⟨⟨w2, below_to x.h hb⟩, rfl⟩) hR (fun _ _ _ _ _ => trivial) (fun _ _ _ _ _ _ _ h => h) (fun hlt => by simp at hlt) (fun g a w' hw _ hr hq => hq g w' hw (hr (by simp))) _ _ _ (fun _ => undef) a w.drew (fun j oj _ hl => by rw [hf] at hl; cases hl)
    ⟨rfl, rfl, fun t _ => by
      unfold valAt
      have : (pv.find? fun p => (Array.replicate l.toArray.size false).getD p false && dstOf l.toArray p == some t) = none := by
        rw [List.find?_eq_none]; intro p _; rw [hf]; simp
      rw [this]⟩ ⟨⟨w.drew, (Below.refl _ _).drew⟩, rfl⟩ (fun _ => trivial) (fun _ p _ hl => by rw [hf] at hl; cases hl) (by simp) hx
  simpa using hy
/-- What an operation leaves, where operation s stores. -/
def Post2 (pv : List Nat) (Rel : Nat → Value → World → Prop) (C : World → Prop) (s : Nat) (Rel2 : (Nat → Value) → World → Prop) : PostT := fun i v g w u x => if i = s then u = v ∧ C x ∧ Rel2 g x else Below w.heap.size w x ∧ (if i ∈ pv then Rel i u x else u = v)
theorem post2_of {s i : Nat} {Rel2 : (Nat → Value) → World → Prop} (h : i ≠ s) : ∀ v g w u x, Post1 pv Rel i v g w u x → Post2 pv Rel C s Rel2 i v g w u x := fun v g w u x hh => by unfold Post2; rw [if_neg h]; exact hh
def ancB (ops : Array Oper) (pv : List Nat) (s : Nat) : Bool := (List.range ops.size).all fun i => match ops[i]? with
  | none => true
  | some o => i == s || !(pv.contains i || pv.any (usesB ops o)) || pathB ops i ops.size s
/-- The law with a store into what a private operation made. -/
theorem wp_region_ghs {id : Nat} {Q : Exit → Act → World → Prop} {a : Act} {w : World} {l : List Oper} (pv : List Nat) (Rel : Nat → Value → World → Prop) (s : Nat) (Rel2 : (Nat → Value) → World → Prop) (hm : P.follows .mixedOrders = true) (hB : Region.lexB .any l.toArray = true) (hP : privB l.toArray pv = true)
    (hs : pv.contains s = false) (hsl : s < l.length) (hsg : (match l[s]? with | some o => o.guard.isNone | none => false) = true) (hA : ancB l.toArray pv s = true)
    (hR : ∀ p u w w', Rel p u w → Below w.heap.size w w' → Rel p u w') (hR2 : ∀ g w w', Rel2 g w → Below w.heap.size w w' → Rel2 g w')
    (h : wpGho P l.toArray pv Rel (fun w' => ∃ x : Later w, w' = x.w') (Post2 pv Rel (fun w' => ∃ x : Later w, w' = x.w') s Rel2) (fun a' => ∀ g w', (∃ x : Later w, w' = x.w') → Rel2 g w' → Q .normal (over l.toArray pv g a') w') 0 l a) : (Code.region id l.toArray true).wp P Q a w := by
  simp only [Region.lexB, Bool.and_eq_true] at hB
  refine wp_region_any hm ?_
  have hp := Priv.of hP
  have hx := wpAnyG_lex (P := P) (pv := pv) (Rel := Rel) (C := fun w' => ∃ x : Later w, w' = x.w') hp hB.1 l 0 (Array.replicate l.toArray.size false) a (by simp) (by simp) (fun j hj => absurd hj (Nat.not_lt_zero _)) (by simpa using hB.2) h
  have hf : ∀ m j, (Array.replicate m false).getD j false = false := fun m j => by
    rcases Nat.lt_or_ge j m with h | h
    · simp [h]
    · simp [h]
  have hy := wpAny_of_gho (P := P) (ops := l.toArray) (pv := pv) (Rel := Rel) (C := fun w' => ∃ x : Later w, w' = x.w') (Post := Post2 pv Rel (fun w' => ∃ x : Later w, w' = x.w') s Rel2) hp (Region.noSelect_spec hB.1) s Rel2
    (by simpa using hs) (fun o ho => by
      have ho' : l[s]? = some o := by simpa using ho
      rw [ho'] at hsg
      simpa using hsg) (fun listed _ hc hl i o ho his hx => by
      unfold ancB at hA
      rw [List.all_eq_true] at hA
      have h1 := hA i (List.mem_range.2 (Array.getElem?_eq_some_iff.1 ho).1)
      rw [ho] at h1
      simp only [Bool.or_eq_true, beq_iff_eq, Bool.not_eq_true', Bool.or_eq_false_iff] at h1
      rcases h1 with (h1 | h1) | h1
      · exact absurd h1 his
      · exfalso
        rcases hx with hx | ⟨p, hp, hw⟩
        · have := h1.1; simp at this; exact this hx
        · have := h1.2; rw [List.any_eq_false] at this; exact this p hp hw
      · exact path_listed hc i _ s h1 hl) (fun w1 w2 ⟨x, hx⟩ hb => by
      subst hx; exact ⟨⟨w2, below_to x.h hb⟩, rfl⟩) hR hR2 (fun i v g w u x his h => by unfold Post2 at h; rw [if_neg his] at h; exact h) (fun _ v g w u x h => by unfold Post2 at h; rw [if_pos rfl] at h; exact h)
    (fun g a w' hw h2 _ hq => hq g w' hw (h2 (by simpa using hsl))) _ _ _ (fun _ => undef) a w.drew (fun j oj _ hl => by rw [hf] at hl; cases hl)
    ⟨rfl, rfl, fun t _ => by
      unfold valAt
      have : (pv.find? fun p => (Array.replicate l.toArray.size false).getD p false && dstOf l.toArray p == some t) = none := by
        rw [List.find?_eq_none]; intro p _; rw [hf]; simp
      rw [this]⟩ ⟨⟨w.drew, (Below.refl _ _).drew⟩, rfl⟩ (fun hl => by rw [hf] at hl; cases hl) (fun _ p _ hl => by rw [hf] at hl; cases hl) (by simp) hx
  simpa using hy
theorem wpGho_nil {Q : Act → Prop} {i : Nat} {a : Act} (h : Q a) : wpGho P ops pv Rel C Post Q i [] a := h
theorem over_plain (h : Priv ops pv) {o : Oper} (hs : ∀ cs b, o.op ≠ .select cs b) (hpl : (pv.all fun p => !readsB o (dstOf ops p)) = true) (g : Nat → Value) (a : Act) : execOp (over ops pv g a).eval o = execOp a.eval o := by
  rw [List.all_eq_true] at hpl
  refine execOp_congr o hs fun x hx => ?_
  cases x with
  | tmp t =>
    show (over ops pv g a).tmps.getD t undef = a.tmps.getD t undef
    by_cases ht : t < a.tmps.size
    · rw [over_val g h.dist pv (fun _ h => h) a t ht]
      unfold valAt
      cases hf : pv.find? fun p => true && dstOf ops p == some t with
      | none => rfl
      | some q =>
        exfalso
        have h4 := List.find?_some hf
        simp only [Bool.true_and, beq_iff_eq] at h4
        have h5 := hpl q (List.mem_of_find?_eq_some hf)
        rw [h4] at h5
        unfold readsB at h5
        simp only [Bool.not_eq_true', List.any_eq_false] at h5
        exact h5 (.tmp t) (by simpa using hx) (by simp)
    · have e1 : (over ops pv g a).tmps.size ≤ t := by rw [over_size]; exact Nat.not_lt.1 ht
      simp [Array.getElem?_eq_none (xs := (over ops pv g a).tmps) (i := t) e1, Array.getElem?_eq_none (xs := a.tmps) (i := t) (Nat.not_lt.1 ht)]
  | _ => rfl
def isSelect (o : Oper) : Bool := match o.op with | .select _ _ => true | _ => false
theorem not_select {o : Oper} (h : isSelect o = false) : ∀ cs b, o.op ≠ .select cs b := fun cs b e => by unfold isSelect at h; rw [e] at h; cases h
variable {w : World}
/-- An operation that reads no private place. -/
theorem wpGho_plain {l : List Oper} {Q : Act → Prop} {i : Nat} {a : Act} {o : Oper} {rest : List Oper} (hP : privB l.toArray pv = true) (hip : pv.contains i = false) (hsel : isSelect o = false) (hpl : (pv.all fun p => !readsB o (dstOf l.toArray p)) = true)
    (h : ∀ K : Act → Prop, (∀ a, wpGho P l.toArray pv Rel (fun w' => ∃ x : Later w, w' = x.w') Post Q (i + 1) rest a → K a) →
      if Region.wanted o (yielded l.toArray a.tmps) then ∃ v, (∀ x : Later w, gOut P x.w' (fun u _ => u = v) ((execOp a.eval o).run P x.w')) ∧ K (a.put o.dst v) else K (a.put o.dst undef)) (hPi : ∀ v g w u x, Post1 pv Rel i v g w u x → Post i v g w u x := by first | exact fun _ _ _ _ _ h => h | exact post2_of (by decide)) :
    wpGho P l.toArray pv Rel (fun w' => ∃ x : Later w, w' = x.w') Post Q i (o :: rest) a := by
  have h2 := h _ (fun _ h => h)
  have hni : i ∉ pv := by simpa using hip
  cases hw : Region.wanted o (yielded l.toArray a.tmps)
  · rw [hw] at h2
    exact ⟨undef, .inr ⟨hw, rfl⟩, h2⟩
  · rw [hw, if_pos rfl] at h2
    obtain ⟨v, a1, a2⟩ := h2
    refine ⟨v, .inl ⟨hw, ?_⟩, a2⟩
    rintro g _ ⟨x, rfl⟩ _
    rw [over_plain (Priv.of hP) (not_select hsel) hpl]
    exact gRaw_mono (fun u y hh => hPi v g _ u y ⟨hh.1, by rw [if_neg hni]; exact hh.2⟩) (gRaw_of_gOut (a1 x))
/-- A private operation. -/
theorem wpGho_make {l : List Oper} {Q : Act → Prop} {i : Nat} {a : Act} {o : Oper} {rest : List Oper} (hP : privB l.toArray pv = true) (hip : pv.contains i = true) (hg : o.guard = none) (hsel : isSelect o = false) (hpl : (pv.all fun p => !readsB o (dstOf l.toArray p)) = true)
    (h : ∀ K : Act → Prop, (∀ a, wpGho P l.toArray pv Rel (fun w' => ∃ x : Later w, w' = x.w') Post Q (i + 1) rest a → K a) →
      (∀ x : Later w, gOut P x.w' (fun u w'' => Rel i u w'') ((execOp a.eval o).run P x.w')) ∧ K (a.put o.dst undef)) (hPi : ∀ v g w u x, Post1 pv Rel i v g w u x → Post i v g w u x := by first | exact fun _ _ _ _ _ h => h | exact post2_of (by decide)) :
    wpGho P l.toArray pv Rel (fun w' => ∃ x : Later w, w' = x.w') Post Q i (o :: rest) a := by
  obtain ⟨a1, a2⟩ := h _ (fun _ h => h)
  have hi : i ∈ pv := by simpa using hip
  refine ⟨undef, .inl ⟨by unfold Region.wanted; rw [hg], ?_⟩, a2⟩
  rintro g _ ⟨x, rfl⟩ _
  rw [over_plain (Priv.of hP) (not_select hsel) hpl]
  exact gRaw_mono (fun u y hh => hPi undef g _ u y ⟨hh.1, by rw [if_pos hi]; exact hh.2⟩) (gRaw_of_gOut (a1 x))
/-- An operation that reads what private ones made. -/
theorem wpGho_read {l : List Oper} {Q : Act → Prop} {i : Nat} {a : Act} {o : Oper} {rest : List Oper} (hip : pv.contains i = false) (hg : o.guard = none)
    (h : ∀ K : Act → Prop, (∀ a, wpGho P l.toArray pv Rel (fun w' => ∃ x : Later w, w' = x.w') Post Q (i + 1) rest a → K a) →
      ∃ v, (∀ (g : Nat → Value) (x : Later w), (∀ p ∈ pv, usesB l.toArray o p = true → Rel p (g p) x.w') → gOut P x.w' (fun u _ => u = v) ((execOp (over l.toArray pv g a).eval o).run P x.w')) ∧ K (a.put o.dst v)) (hPi : ∀ v g w u x, Post1 pv Rel i v g w u x → Post i v g w u x := by first | exact fun _ _ _ _ _ h => h | exact post2_of (by decide)) :
    wpGho P l.toArray pv Rel (fun w' => ∃ x : Later w, w' = x.w') Post Q i (o :: rest) a := by
  obtain ⟨v, a1, a2⟩ := h _ (fun _ h => h)
  have hni : i ∉ pv := by simpa using hip
  refine ⟨v, .inl ⟨by unfold Region.wanted; rw [hg], ?_⟩, a2⟩
  rintro g _ ⟨x, rfl⟩ hR
  exact gRaw_mono (fun u y hh => hPi v g _ u y ⟨hh.1, by rw [if_neg hni]; exact hh.2⟩) (gRaw_of_gOut (a1 g x hR))
/-- The operation that stores. -/
theorem wpGhs_store {l : List Oper} {Q : Act → Prop} {i s : Nat} {Rel2 : (Nat → Value) → World → Prop} {a : Act} {o : Oper} {rest : List Oper} (his : i = s) (hg : o.guard = none)
    (h : ∀ K : Act → Prop, (∀ a, wpGho P l.toArray pv Rel (fun w' => ∃ x : Later w, w' = x.w') (Post2 pv Rel (fun w' => ∃ x : Later w, w' = x.w') s Rel2) Q (i + 1) rest a → K a) →
      (∀ (g : Nat → Value) (x : Later w), (∀ p ∈ pv, usesB l.toArray o p = true → Rel p (g p) x.w') → gRaw P x.w' (fun u y => u = undef ∧ (∃ z : Later w, y = z.w') ∧ Rel2 g y) ((execOp (over l.toArray pv g a).eval o).run P x.w')) ∧ K (a.put o.dst undef)) :
    wpGho P l.toArray pv Rel (fun w' => ∃ x : Later w, w' = x.w') (Post2 pv Rel (fun w' => ∃ x : Later w, w' = x.w') s Rel2) Q i (o :: rest) a := by
  obtain ⟨a1, a2⟩ := h _ (fun _ h => h)
  refine ⟨undef, .inl ⟨by unfold Region.wanted; rw [hg], ?_⟩, a2⟩
  rintro g _ ⟨x, rfl⟩ hR
  exact gRaw_mono (fun u y hh => by unfold Post2; rw [if_pos his]; exact hh) (a1 g x hR)
@[go_sem] theorem gOut_value (w : World) (ok : Value → World → Prop) (u : Value) : gOut P w ok (.ok (.value u) w) = ok u w := propext ⟨fun h => h.2, fun h => ⟨Below.refl _ _, h⟩⟩
@[go_sem] theorem gOut_skip (w : World) (ok : Value → World → Prop) : gOut P w ok (.ok .skip w) = ok undef w := propext ⟨fun h => h.2, fun h => ⟨Below.refl _ _, h⟩⟩
@[go_sem] theorem gOut_enter (w : World) (v : Value) (f : FuncId) (args : Array Value) : gOut P w (fun u _ => u = v) (.ok (.enter f args) w) = Calls P f args w (fun e w'' => e = .returned v ∧ Below w.heap.size w w'') := by
  have e : (fun (e : Ending) (w'' : World) => ∃ u, e = .returned u ∧ Below w.heap.size w w'' ∧ u = v) = fun e w'' => e = .returned v ∧ Below w.heap.size w w'' := by
    funext e w''
    exact propext ⟨fun ⟨u, h1, h2, h3⟩ => ⟨by rw [h1, h3], h2⟩, fun ⟨h1, h2⟩ => ⟨v, h1, h2, rfl⟩⟩
  show (w = w ∧ Calls P f args w (fun e w'' => ∃ u, e = .returned u ∧ Below w.heap.size w w'' ∧ u = v)) = _
  rw [e]
  exact propext ⟨fun h => h.2, fun h => ⟨rfl, h⟩⟩
end

end Go.Proofs.Ytliblhfabnjpkaa

namespace Go.Proofs.Ytliblhfabnjpkaa
open Go Go.RowKit

section
variable {P : Program} {md : Region.Mode} {l : List Oper} {st : Oper} {Q : Exit → Act → World → Prop}

/-- What is asked of the operations. -/
structure Peel (md : Region.Mode) (l : List Oper) (st : Oper) : Prop where
  ordered : ∀ (i : Nat) (o : Oper), l[i]? = some o → ∀ e ∈ o.after, Region.binds md e = true → e.on < i
  guards : ∀ (i : Nat) (o : Oper), l[i]? = some o → ∀ j b, o.guard = some (j, b) → j < l.length
  waits : ∀ i, i < l.length → (∃ e ∈ st.after, Region.binds md e = true ∧ e.on = i) ∨ ∃ j o, i < j ∧ l[j]? = some o ∧ ∃ e ∈ o.after, Region.binds md e = true ∧ e.on = i
  stok : ∀ e ∈ st.after, Region.binds md e = true → e.on < l.length
def peelB (md : Region.Mode) (l : List Oper) (st : Oper) : Bool :=
  ((List.range l.length).all fun i => match l[i]? with
    | some o => (o.after.toList.all fun e => !Region.binds md e || decide (e.on < i)) && (match o.guard with | some (j, _) => decide (j < l.length) | none => true)
    | none => true) &&
  ((List.range l.length).all fun i => (st.after.toList.any fun e => Region.binds md e && e.on == i) || (List.range l.length).any fun j => decide (i < j) && (match l[j]? with | some o => o.after.toList.any fun e => Region.binds md e && e.on == i | none => false)) && (st.after.toList.all fun e => !Region.binds md e || decide (e.on < l.length))
theorem Peel.of (h : peelB md l st = true) : Peel md l st := by
  unfold peelB at h
  simp only [Bool.and_eq_true, List.all_eq_true, List.mem_range] at h
  obtain ⟨⟨h1, h2⟩, h3⟩ := h
  have g1 : ∀ (i : Nat) (o : Oper), l[i]? = some o → (∀ e ∈ o.after, Region.binds md e = true → e.on < i) ∧ ∀ j b, o.guard = some (j, b) → j < l.length := fun i o ho => by
    have hi : i < l.length := (List.getElem?_eq_some_iff.1 ho).1
    have h4 := h1 i hi
    rw [ho] at h4
    simp only [Bool.and_eq_true, List.all_eq_true] at h4
    refine ⟨fun e he hb => ?_, fun j b hg => ?_⟩
    · have := h4.1 e (Array.mem_toList_iff.2 he)
      simpa [hb] using this
    · have := h4.2
      rw [hg] at this
      simpa using this
  refine ⟨fun i o ho => (g1 i o ho).1, fun i o ho => (g1 i o ho).2, fun i hi => ?_, fun e he hb => ?_⟩
  · rcases Bool.or_eq_true_iff.1 (h2 i hi) with h4 | h4
    · obtain ⟨e, he, hb⟩ := List.any_eq_true.1 h4
      simp only [Bool.and_eq_true, beq_iff_eq] at hb
      exact .inl ⟨e, Array.mem_toList_iff.1 he, hb.1, hb.2⟩
    · obtain ⟨j, hj, hb⟩ := List.any_eq_true.1 h4
      simp only [Bool.and_eq_true, decide_eq_true_eq] at hb
      obtain ⟨hij, hb⟩ := hb
      have hjl := List.mem_range.1 hj
      rw [List.getElem?_eq_getElem hjl] at hb
      obtain ⟨e, he, hb⟩ := List.any_eq_true.1 hb
      simp only [Bool.and_eq_true, beq_iff_eq] at hb
      exact .inr ⟨j, l[j], hij, List.getElem?_eq_getElem hjl, e, Array.mem_toList_iff.1 he, hb.1, hb.2⟩
  · have := h3 e (Array.mem_toList_iff.2 he)
    simpa [hb] using this

/-- What the others come to. -/
def before (P : Program) (l : List Oper) (st : Oper) (Q : Exit → Act → World → Prop) : Exit → Act → World → Prop
  | .normal, a, w => wpOp P (l ++ [st]).toArray Q l.length (fun a w => Q .normal a w) a w
  | e, a, w => Q e a w

theorem out_before (h : LetsOut (before P l st Q)) : LetsOut Q := h
theorem wp_before {o : Oper} {a : Act} {w : World} {K K' : Act → World → Prop} (hk : ∀ a w, K a w → K' a w) (hh : o.wp P a w K (before P l st Q)) : o.wp P a w K' Q := by
  unfold Oper.wp at *
  generalize (execOp a.eval o).run P w = r at *
  cases r with
  | ok n w' =>
    cases n <;> simp only [Oper.upon] at hh ⊢ <;>
      first
        | exact hk _ _ hh
        | exact Calls.mono hh (fun e w'' he => by cases e <;> first | exact hk _ _ he | exact he)
        | exact Rows.mono hh (fun _ _ he => hk _ _ he)
  | halt x w' => cases x <;> simp only [Oper.upon] at hh ⊢ <;> exact hh

theorem get_app {i : Nat} (h : i < l.length) : (l ++ [st]).toArray[i]? = l.toArray[i]? := by
  simp [List.getElem?_append_left h]
theorem get_last : (l ++ [st]).toArray[l.length]? = some st := by simp
theorem yielded_app (_hj : ∀ j b, (o : Oper) → o.guard = some (j, b) → True) {j : Nat} (h : j < l.length) (t : Array Value) : yielded (l ++ [st]).toArray t j = yielded l.toArray t j := by
  unfold yielded
  rw [get_app h]
theorem wanted_app (hp : Peel md l st) {i : Nat} {o : Oper} (ho : l[i]? = some o) (t : Array Value) : Region.wanted o (yielded (l ++ [st]).toArray t) = Region.wanted o (yielded l.toArray t) := by
  unfold Region.wanted
  cases hg : o.guard with
  | none => rfl
  | some g =>
    obtain ⟨j, b⟩ := g
    simp only []
    rw [yielded_app (fun _ _ _ _ => trivial) (hp.guards i o ho j b hg)]
theorem wpOp_app (hp : Peel md l st) {i : Nat} (hi : i < l.length) {a : Act} {w : World} {K K' : Act → World → Prop} (hk : ∀ a w, K a w → K' a w) (h : wpOp P l.toArray (before P l st Q) i K a w) : wpOp P (l ++ [st]).toArray Q i K' a w := by
  unfold wpOp at *
  rw [get_app hi]
  have ho : l.toArray[i]? = some l[i] := by simp
  have ho' : l[i]? = some l[i] := by simp
  simp only [ho] at h ⊢
  rw [wanted_app hp ho']
  split
  · rename_i hw
    rw [if_pos hw] at h
    exact h.imp (wp_before hk) (fun ⟨x, y⟩ => ⟨x, out_before y⟩)
  · rename_i hw
    rw [if_neg hw] at h
    exact hk _ _ h

theorem getD_tf {L : Array Bool} {i : Nat} (h : i < L.size) : L.getD i false = L.getD i true := by simp [h]
theorem all_listed (hp : Peel md l st) {L : Array Bool} (hL : L.size = l.length) (h : Region.ready md l.toArray L = []) : ∀ i, i < l.length → L.getD i true = true := by
  intro i
  induction i using Nat.strongRecOn with
  | ind i ih =>
    intro hi
    cases hl : L.getD i true with
    | true => rfl
    | false =>
      exfalso
      have : i ∈ Region.ready md l.toArray L := mem_ready.2 ⟨hl, l[i], by simp, fun e he hb => by
        have h1 := hp.ordered i l[i] (by simp) e he hb
        rw [getD_tf (by omega)]
        exact ih e.on h1 (by omega)⟩
      rw [h] at this
      cases this

/-- What the last one waits for, directly or through others, has come up. -/
theorem all_waited (hp : Peel md l st) {L : Array Bool} (_hL : L.size = l.length) (hc : Closed md l.toArray L) (h2 : ∀ e ∈ st.after, Region.binds md e = true → L.getD e.on false = true) : ∀ k i, l.length - i = k → i < l.length → L.getD i false = true := by
  intro k
  induction k using Nat.strongRecOn with
  | ind k ih =>
    intro i hk hi
    rcases hp.waits i hi with ⟨e, he, hb, rfl⟩ | ⟨j, o, hij, ho, e, he, hb, rfl⟩
    · exact h2 e he hb
    · have hj : j < l.length := (List.getElem?_eq_some_iff.1 ho).1
      exact hc j o (by simpa using ho) (ih (l.length - j) (by omega) j rfl hj) e he hb
theorem wpAny_peel (hp : Peel md l st) : ∀ (f : Nat) (L L' : Array Bool) (a : Act) (w : World), Closed md l.toArray L → L.size = l.length → L'.size = l.length + 1 → (∀ i, i < l.length → L'.getD i true = L.getD i true) → L'.getD l.length true = false →
    wpAny P md l.toArray (before P l st Q) f L a w → wpAny P md (l ++ [st]).toArray Q (f + 1) L' a w := by
  have last : ∀ (f : Nat) (L L' : Array Bool) (a : Act) (w : World), L.size = l.length → L'.size = l.length + 1 → (∀ i, i < l.length → L'.getD i true = L.getD i true) → Region.ready md l.toArray L = [] → before P l st Q .normal a w →
      wpOp P (l ++ [st]).toArray Q l.length (wpAny P md (l ++ [st]).toArray Q f (L'.setIfInBounds l.length true)) a w := by
    intro f L L' a w hL hL' hag hr hb
    have hall := all_listed hp hL hr
    have hnone : Region.ready md (l ++ [st]).toArray (L'.setIfInBounds l.length true) = [] := by
      refine List.eq_nil_iff_forall_not_mem.2 fun j hj => ?_
      obtain ⟨h1, o, ho, _⟩ := mem_ready.1 hj
      have hjl : j < (l ++ [st]).toArray.size := (Array.getElem?_eq_some_iff.1 ho).1
      simp at hjl
      rcases Nat.lt_or_ge j l.length with h2 | h2
      · rw [getD_set_ne true (by omega), hag j h2, hall j h2] at h1
        cases h1
      · have : j = l.length := by omega
        subst this
        simp [hL'] at h1
    refine wpOp_mono (fun a' w' hq => ?_) hb
    cases f with
    | zero => exact ⟨hnone, hq⟩
    | succ f => exact ⟨fun _ => hq, fun i hi => by rw [hnone] at hi; cases hi⟩
  have rdy : ∀ (L L' : Array Bool), Closed md l.toArray L → L.size = l.length → L'.size = l.length + 1 → (∀ i, i < l.length → L'.getD i true = L.getD i true) → L'.getD l.length true = false →
      ∀ i, i ∈ Region.ready md (l ++ [st]).toArray L' ↔ (i ∈ Region.ready md l.toArray L ∨ (i = l.length ∧ Region.ready md l.toArray L = [])) := by
    intro L L' hc hL hL' hag hn i
    constructor
    · intro hi
      obtain ⟨h1, o, ho, h2⟩ := mem_ready.1 hi
      have hjl : i < (l ++ [st]).toArray.size := (Array.getElem?_eq_some_iff.1 ho).1
      simp at hjl
      rcases Nat.lt_or_ge i l.length with h3 | h3
      · refine .inl (mem_ready.2 ⟨by rw [← hag i h3]; exact h1, o, by rw [← get_app h3]; exact ho, fun e he hb => ?_⟩)
        have h4 := hp.ordered i o (by rw [get_app h3] at ho; simpa using ho) e he hb
        have h5 := h2 e he hb
        rw [getD_tf (by omega)] at h5 ⊢
        rw [← hag e.on (by omega)]
        exact h5
      · have hil : i = l.length := by omega
        refine .inr ⟨hil, ?_⟩
        subst hil
        have : o = st := by rw [get_last] at ho; exact (Option.some.inj ho).symm
        subst this
        refine List.eq_nil_iff_forall_not_mem.2 fun j hj => ?_
        obtain ⟨g1, oj, hoj, _⟩ := mem_ready.1 hj
        have hjl2 : j < l.toArray.size := (Array.getElem?_eq_some_iff.1 hoj).1
        simp at hjl2
        have h5 := all_waited hp hL hc (fun e he hb => by
          have h4 := hp.stok e he hb
          have h5 := h2 e he hb
          rw [getD_tf (by omega), hag e.on h4] at h5
          rw [getD_tf (by omega)]; exact h5) _ j rfl hjl2
        rw [getD_tf (by omega)] at h5
        rw [h5] at g1
        cases g1
    · rintro (hi | ⟨rfl, hr⟩)
      · obtain ⟨h1, o, ho, h2⟩ := mem_ready.1 hi
        have h3 : i < l.length := by have := (Array.getElem?_eq_some_iff.1 ho).1; simpa using this
        refine mem_ready.2 ⟨by rw [hag i h3]; exact h1, o, by rw [get_app h3]; exact ho, fun e he hb => ?_⟩
        have h4 := hp.ordered i o (by simpa using ho) e he hb
        have h5 := h2 e he hb
        rw [getD_tf (by omega)] at h5 ⊢
        rw [hag e.on (by omega)]
        exact h5
      · have hall := all_listed hp hL hr
        refine mem_ready.2 ⟨hn, st, get_last, fun e he hb => ?_⟩
        have h4 := hp.stok e he hb
        rw [getD_tf (by omega), hag e.on h4]
        exact hall e.on h4
  intro f
  induction f with
  | zero =>
    intro L L' a w hc hL hL' hag hn h
    have hr := rdy L L' hc hL hL' hag hn
    refine ⟨fun h0 => ?_, fun i hi => ?_⟩
    · have := (hr l.length).2 (.inr ⟨rfl, h.1⟩)
      rw [h0] at this; cases this
    · rcases (hr i).1 hi with h1 | ⟨rfl, _⟩
      · rw [h.1] at h1; cases h1
      · exact last 0 L L' a w hL hL' hag h.1 h.2
  | succ f ih =>
    intro L L' a w hc hL hL' hag hn h
    have hr := rdy L L' hc hL hL' hag hn
    refine ⟨fun h0 => ?_, fun i hi => ?_⟩
    · exfalso
      by_cases hz : Region.ready md l.toArray L = []
      · have := (hr l.length).2 (.inr ⟨rfl, hz⟩)
        rw [h0] at this; cases this
      · obtain ⟨j, hj⟩ := List.exists_mem_of_ne_nil _ hz
        have := (hr j).2 (.inl hj)
        rw [h0] at this; cases this
    · rcases (hr i).1 hi with h1 | ⟨rfl, hz⟩
      · obtain ⟨_, o, ho, _⟩ := mem_ready.1 h1
        have h3 : i < l.length := by have := (Array.getElem?_eq_some_iff.1 ho).1; simpa using this
        refine wpOp_app hp h3 (fun a' w' hk => ih (L.setIfInBounds i true) (L'.setIfInBounds i true) a' w' (hc.set h1) (by simpa using hL) (by simpa using hL') (fun j hj => ?_) ?_ hk) (h.2 i h1)
        · by_cases hij : i = j
          · subst hij; simp [hL, hL', h3, Nat.lt_succ_of_lt h3]
          · rw [getD_set_ne true hij, getD_set_ne true hij]; exact hag j hj
        · rw [getD_set_ne true (by omega)]; exact hn
      · exact last _ L L' a w hL hL' hag hz (h.1 hz)

/-- The law on private operations, with a last operation behind all. -/
theorem wp_region_gho_last {id : Nat} {a : Act} {w : World} {l' : List Oper} {st : Oper} (n : Nat) (pv : List Nat) (Rel : Nat → Value → World → Prop) (hm : P.follows .mixedOrders = true) (hB : Region.lexB .any (l'.take n).toArray = true) (hP : privB (l'.take n).toArray pv = true)
    (hst : l'.drop n = [st]) (hpl : peelB .any (l'.take n) st = true) (hg : st.guard = none) (hR : ∀ p u w w', Rel p u w → Below w.heap.size w w' → Rel p u w')
    (h : wpGho P (l'.take n).toArray pv Rel (fun w' => ∃ x : Later w, w' = x.w') (Post1 pv Rel) (fun a' => ∀ g w', (∃ x : Later w, w' = x.w') → (∀ p ∈ pv, Rel p (g p) w') → wpList P l'.toArray Q [st] (over (l'.take n).toArray pv g a') w') 0 (l'.take n) a) : (Code.region id l'.toArray true).wp P Q a w := by
  have hl : l' = l'.take n ++ [st] := by rw [← hst, List.take_append_drop]
  generalize l'.take n = l at *
  subst hl
  simp only [Region.lexB, Bool.and_eq_true] at hB
  refine wp_region_any hm ?_
  have hp := Priv.of hP
  have h' : wpGho P l.toArray pv Rel (fun w' => ∃ x : Later w, w' = x.w') (Post1 pv Rel) (fun a' => ∀ g w', (∃ x : Later w, w' = x.w') → (∀ p ∈ pv, Rel p (g p) w') → before P l st Q .normal (over l.toArray pv g a') w') 0 l a := by
    refine (?_ : ∀ (k : Nat) (m : List Oper) (b : Act), wpGho P l.toArray pv Rel (fun w' => ∃ x : Later w, w' = x.w') (Post1 pv Rel) _ k m b → wpGho P l.toArray pv Rel (fun w' => ∃ x : Later w, w' = x.w') (Post1 pv Rel) _ k m b) 0 l a h
    intro k m
    induction m generalizing k with
    | nil =>
      intro b hb g w' hw hr
      have h1 := hb g w' hw hr
      show wpOp P (l ++ [st]).toArray Q l.length _ _ _
      unfold wpOp
      rw [get_last]
      unfold wpList at h1
      have hw : Region.wanted st (yielded (l ++ [st]).toArray (over l.toArray pv g b).tmps) = true := by unfold Region.wanted; rw [hg]
      simp only [hw, if_true] at h1 ⊢
      exact h1
    | cons o m ih =>
      rintro b ⟨v, h1, h2⟩
      exact ⟨v, h1, ih _ _ h2⟩
  have hx := wpAnyG_lex (P := P) (pv := pv) (Rel := Rel) (C := fun w' => ∃ x : Later w, w' = x.w') hp hB.1 l 0 (Array.replicate l.toArray.size false) a (by simp) (by simp) (fun j hj => absurd hj (Nat.not_lt_zero _)) (by simpa using hB.2) h'
  have hf : ∀ m j, (Array.replicate m false).getD j false = false := fun m j => by
    rcases Nat.lt_or_ge j m with h | h
    · simp [h]
    · simp [h]
  have hy := wpAny_of_gho (P := P) (ops := l.toArray) (pv := pv) (Rel := Rel) (C := fun w' => ∃ x : Later w, w' = x.w') (Post := Post1 pv Rel) hp (Region.noSelect_spec hB.1) (Q' := before P l st Q) l.length (fun _ _ => True)
    (fun hm => by obtain ⟨o, _, ho, _⟩ := hp.has _ hm; simp at ho) (fun o ho => by simp at ho) (fun listed hz _ hl => by
      have hz' : listed.size = l.length := by simpa using hz
      simp [Array.getElem?_eq_none (xs := listed) (i := l.length) (by omega)] at hl) (fun w1 w2 ⟨x, hx⟩ hb => by
      subst hx; exact ⟨⟨w2, below_to x.h hb⟩, rfl⟩) hR (fun _ _ _ _ _ => trivial) (fun _ _ _ _ _ _ _ h => h) (fun hlt => by simp at hlt) (fun g a w' hw _ hr hq => hq g w' hw (hr (by simp))) _ _ _ (fun _ => undef) a w.drew (fun j oj _ hl => by rw [hf] at hl; cases hl)
    ⟨rfl, rfl, fun t _ => by
      unfold valAt
      have : (pv.find? fun p => (Array.replicate l.toArray.size false).getD p false && dstOf l.toArray p == some t) = none := by
        rw [List.find?_eq_none]; intro p _; rw [hf]; simp
      rw [this]⟩ ⟨⟨w.drew, (Below.refl _ _).drew⟩, rfl⟩ (fun _ => trivial) (fun _ p _ hl => by rw [hf] at hl; cases hl) (by simp) hx
  have hz := wpAny_peel (md := .any) (Peel.of hpl) _ _ (Array.replicate (l ++ [st]).toArray.size false) a w.drew (fun j oj _ hl => by rw [hf] at hl; cases hl) (by simp) (by simp) (fun i hi => by simp [hi, Nat.lt_succ_of_lt hi]) (by simp) hy
  simpa using hz
end

end Go.Proofs.Ytliblhfabnjpkaa
