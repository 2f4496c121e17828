/- A region that draws its order, in which one operation makes memory wherever it comes, one stores behind all others, and the others leave the world alone: one walk in the order of the text. -/
import Derived.Test.YtejkimhmpnogkaaDoorB
import Derived.Still
namespace Go.Proofs.YtejkimhmpnogkaaDoor
open Go Go.RowKit

section
variable {P : Program} {ops : Array Oper} {md : Region.Mode} {k s : Nat} {w0 w1 w2 : World}

/-- From one world into another one, with this value. -/
def goesTo (P : Program) (w w' : World) (v : Value) : Result Next → Prop
  | .ok (.value u) x => x = w' ∧ u = v
  | .ok .skip x => x = w' ∧ v = undef
  | .ok (.enter f args) x => x = w ∧ w' = w ∧ Calls P f args w (fun e w'' => e = .returned v ∧ w'' = w)
  | _ => False
/-- What is asked of the operation of this number. -/
def Asked (P : Program) (k s : Nat) (w0 w1 w2 : World) (i : Nat) (e : Sem Next) (v : Value) : Prop :=
  if i = k then goesTo P w0 w1 v (e.run P w0) else if i = s then goesTo P w1 w2 v (e.run P w1)
  else goesTo P w0 w0 v (e.run P w0) ∧ goesTo P w1 w1 v (e.run P w1) ∧ goesTo P w2 w2 v (e.run P w2)
def Does (P : Program) (ops : Array Oper) (k s : Nat) (w0 w1 w2 : World) (i : Nat) (o : Oper) (v : Value) (a : Act) : Prop :=
  (Region.wanted o (yielded ops a.tmps) = true ∧ Asked P k s w0 w1 w2 i (execOp a.eval o) v) ∨ (Region.wanted o (yielded ops a.tmps) = false ∧ v = undef ∧ i ≠ k ∧ i ≠ s)
/-- The walk in the order of the text. -/
def wpFlt (P : Program) (ops : Array Oper) (k s : Nat) (w0 w1 w2 : World) (Q : Act → Prop) : Nat → List Oper → Act → Prop
  | _, [], a => Q a
  | i, o :: rest, a => ∃ v, Does P ops k s w0 w1 w2 i o v a ∧ wpFlt P ops k s w0 w1 w2 Q (i + 1) rest (a.put o.dst v)
def fOp (P : Program) (ops : Array Oper) (k s : Nat) (w0 w1 w2 : World) (i : Nat) (K : Act → Prop) (a : Act) : Prop :=
  match ops[i]? with
  | none => K a
  | some o => ∃ v, Does P ops k s w0 w1 w2 i o v a ∧ K (a.put o.dst v)
theorem fOp_mono {i : Nat} {a : Act} {K K' : Act → Prop} (h : ∀ a, K a → K' a) (hh : fOp P ops k s w0 w1 w2 i K a) : fOp P ops k s w0 w1 w2 i K' a := by
  unfold fOp at *
  split
  · exact h _ (by simpa [*] using hh)
  · rename_i o ho
    simp only [ho] at hh
    obtain ⟨v, h1, h2⟩ := hh
    exact ⟨v, h1, h _ h2⟩
def wpAnyF (P : Program) (md : Region.Mode) (ops : Array Oper) (k s : Nat) (w0 w1 w2 : World) (Q : Array Bool → Act → Prop) : Nat → Array Bool → Act → Prop
  | 0, listed, a => Region.ready md ops listed = [] ∧ Q listed a
  | fuel + 1, listed, a =>
    (Region.ready md ops listed = [] → Q listed a) ∧
    ∀ i ∈ Region.ready md ops listed, fOp P ops k s w0 w1 w2 i (wpAnyF P md ops k s w0 w1 w2 Q fuel (listed.setIfInBounds i true)) a
theorem Does.of_same {i : Nat} {o : Oper} {v : Value} {a a' : Act} (hy : Does P ops k s w0 w1 w2 i o v a) (he : execOp a'.eval o = execOp a.eval o)
    (hw : Region.wanted o (yielded ops a'.tmps) = Region.wanted o (yielded ops a.tmps)) : Does P ops k s w0 w1 w2 i o v a' := by
  unfold Does at *
  rw [he, hw]
  exact hy
theorem fOp_put {i j : Nat} {oi oj : Oper} {v : Value} (hj : ops[j]? = some oj) (hap : oi.apart ops oj = true)
    (hsi : ∀ cs b, oi.op ≠ .select cs b) (hsj : ∀ cs b, oj.op ≠ .select cs b) {K : Act → Prop} {a : Act}
    (hy : Does P ops k s w0 w1 w2 i oi v a) (h : fOp P ops k s w0 w1 w2 j K (a.put oi.dst v)) :
    fOp P ops k s w0 w1 w2 j (fun a' => Does P ops k s w0 w1 w2 i oi v a' ∧ K (a'.put oi.dst v)) a := by
  obtain ⟨h1, h2, h3⟩ := Oper.apart_spec hap
  unfold fOp at *
  simp only [hj] at *
  obtain ⟨u, hu, hn⟩ := h
  refine ⟨u, hu.of_same (execOp_put oj hsj a oi.dst v h1).symm (wanted_put oj a oi.dst v h1).symm, hy.of_same (execOp_put oi hsi a oj.dst u h3) (wanted_put oi a oj.dst u h3), ?_⟩
  rw [← Act.put_comm a v u h2]
  exact hn
theorem wpAnyF_first {Q : Array Bool → Act → Prop} {i : Nat} {oi : Oper} {v : Value} (hi : ops[i]? = some oi) (hsel : ∀ (j : Nat) (o : Oper) cs b, ops[j]? = some o → o.op ≠ .select cs b) :
    ∀ (fuel : Nat) (listed : Array Bool) (a : Act),
      (∀ j oj, ops[j]? = some oj → j ≠ i → listed.getD j true = false → (∀ e ∈ oj.after, Region.binds md e = true → e.on ≠ i) → oi.apart ops oj = true) →
      i ∈ Region.ready md ops listed → Does P ops k s w0 w1 w2 i oi v a →
      wpAnyF P md ops k s w0 w1 w2 Q fuel (listed.setIfInBounds i true) (a.put oi.dst v) → wpAnyF P md ops k s w0 w1 w2 Q (fuel + 1) listed a := by
  intro fuel
  have take : ∀ {K : Act → Prop} {a : Act}, Does P ops k s w0 w1 w2 i oi v a → K (a.put oi.dst v) → fOp P ops k s w0 w1 w2 i K a := fun hy h => by
    unfold fOp; simp only [hi]; exact ⟨v, hy, h⟩
  induction fuel with
  | zero =>
    intro listed a _ hr hy H
    refine ⟨fun h => (by rw [h] at hr; cases hr), fun j hj => ?_⟩
    by_cases hji : j = i
    · subst hji; exact take hy H
    · have := ready_mono hj hji
      rw [H.1] at this
      cases this
  | succ fuel ih =>
    intro listed a hfree hr hy H
    refine ⟨fun h => (by rw [h] at hr; cases hr), fun j hj => ?_⟩
    by_cases hji : j = i
    · subst hji; exact take hy H
    · have h1 := H.2 j (ready_mono hj hji)
      obtain ⟨hjun, oj, hoj, hall⟩ := mem_ready.1 hj
      have hnot : ∀ e ∈ oj.after, Region.binds md e = true → e.on ≠ i := fun e he hb heq => by
        have h1 := hall e he hb
        have h0 := (mem_ready.1 hr).1
        rw [heq] at h1
        rcases Nat.lt_or_ge i listed.size with h' | h'
        · simp [h'] at h0 h1; rw [h0] at h1; cases h1
        · simp [Array.getElem?_eq_none h'] at h1
      have h2 := fOp_put hoj (hfree j oj hoj hji hjun hnot) (fun cs b => hsel i oi cs b hi) (fun cs b => hsel j oj cs b hoj) hy h1
      have hfree' : ∀ m om, ops[m]? = some om → m ≠ i → (listed.setIfInBounds j true).getD m true = false →
          (∀ e ∈ om.after, Region.binds md e = true → e.on ≠ i) → oi.apart ops om = true := fun m om hm hmi hun hno => by
        refine hfree m om hm hmi ?_ hno
        by_cases hjm : j = m
        · subst hjm; exact hjun
        · rw [getD_set_ne true hjm] at hun; exact hun
      refine fOp_mono (fun a' h3 => ih (listed.setIfInBounds j true) a' hfree' (ready_mono hr (Ne.symm hji)) h3.1 ?_) h2
      rw [Array.setIfInBounds_comm _ _ hji]
      exact h3.2
theorem wpAnyF_lex {Q : Act → Prop} (hs : Region.noSelect ops = true) : ∀ (l : List Oper) (m : Nat) (listed : Array Bool) (a : Act), (∀ j, l[j]? = ops[m + j]?) → listed.size = ops.size → (∀ j, j < m → j < ops.size → listed.getD j false = true) →
    Region.lexFrom md ops l.length m listed = true → wpFlt P ops k s w0 w1 w2 Q m l a → wpAnyF P md ops k s w0 w1 w2 (fun listed a => (s < ops.size → listed.getD s false = true) ∧ Q a) l.length listed a
  | [], m, listed, _, hl, hz, hd, hB, h => ⟨by simpa [Region.lexFrom] using hB, fun hsz => hd s (by
      rcases Nat.lt_or_ge s m with h1 | h1
      · exact h1
      · have := hl (s - m)
        rw [show m + (s - m) = s by omega, Array.getElem?_eq_getElem hsz] at this
        cases this) hsz, h⟩
  | o :: l, m, listed, a, hl, hz, hd, hB, h => by
    have h0 : ops[m]? = some o := by simpa using (hl 0).symm
    have hml : m < ops.size := (Array.getElem?_eq_some_iff.1 h0).1
    simp only [List.length_cons, Region.lexFrom, Bool.and_eq_true] at hB
    obtain ⟨⟨hr, hf⟩, hB'⟩ := hB
    obtain ⟨v, hy, hK⟩ := h
    refine wpAnyF_first h0 (Region.noSelect_spec hs) l.length listed a (Region.free_spec h0 hf) (by simpa using hr) hy
      (wpAnyF_lex hs l (m + 1) _ _ (fun j => by have := hl (j + 1); simpa [Nat.add_assoc, Nat.add_comm 1 j] using this) (by simpa using hz) (fun j hj hjs => ?_) hB' hK)
    by_cases hjm : j = m
    · subst hjm; simp [hz, hml]
    · exact getD_set_true (hd j (by omega) hjs)
/-- What came up before what waits for it. -/
def Closed (md : Region.Mode) (ops : Array Oper) (listed : Array Bool) : Prop := ∀ j oj, ops[j]? = some oj → listed.getD j false = true → ∀ e ∈ oj.after, Region.binds md e = true → listed.getD e.on false = true
def atW (k s : Nat) (w0 w1 w2 : World) (listed : Array Bool) : World := if listed.getD s false then w2 else if listed.getD k false then w1 else w0
theorem getD_ft {listed : Array Bool} {i : Nat} (h : listed.getD i true = false) : listed.getD i false = false ∧ i < listed.size := by
  rcases Nat.lt_or_ge i listed.size with h' | h'
  · simp [h'] at h ⊢; exact h
  · simp [Array.getElem?_eq_none h'] at h
theorem Closed.set {listed : Array Bool} {i : Nat} (h : Closed md ops listed) (hi : i ∈ Region.ready md ops listed) : Closed md ops (listed.setIfInBounds i true) := by
  obtain ⟨_, oi, hoi, hall⟩ := mem_ready.1 hi
  intro j oj hj hl e he hb
  by_cases hij : i = j
  · subst hij
    have : oj = oi := Option.some.inj (hj.symm.trans hoi)
    subst this
    exact getD_set_true (hall e he hb)
  · rw [getD_set_ne false hij] at hl
    exact getD_set_true (h j oj hj hl e he hb)
theorem wp_of_goes {o : Oper} {a : Act} {v : Value} {w w' : World} {K' : Act → World → Prop} {Q' : Exit → Act → World → Prop} (hg : goesTo P w w' v ((execOp a.eval o).run P w)) (h : K' (a.put o.dst v) w') : o.wp P a w K' Q' := by
  unfold Oper.wp
  generalize (execOp a.eval o).run P w = r at *
  cases r with
  | ok n x =>
    cases n <;> simp only [goesTo] at hg <;> simp only [Oper.upon]
    case value u => obtain ⟨rfl, rfl⟩ := hg; exact h
    case skip => obtain ⟨rfl, rfl⟩ := hg; exact h
    case enter f args =>
      obtain ⟨rfl, rfl, hc⟩ := hg
      exact hc.mono fun e w'' ⟨he, hw''⟩ => by subst he; subst hw''; exact h
  | halt x w' => simp only [goesTo] at hg
theorem wpAny_of_flt {Q : Act → Prop} {Q' : Exit → Act → World → Prop} {os : Oper} (hks : k ≠ s) (hsz : s < ops.size) (hos : ops[s]? = some os) (hwait : ∃ e ∈ os.after, Region.binds md e = true ∧ e.on = k) (hQ : ∀ a, Q a → Q' .normal a w2) :
    ∀ (fuel : Nat) (listed : Array Bool) (a : Act), Closed md ops listed →
    wpAnyF P md ops k s w0 w1 w2 (fun listed a => (s < ops.size → listed.getD s false = true) ∧ Q a) fuel listed a → wpAny P md ops Q' fuel listed a (atW k s w0 w1 w2 listed)
  | 0, listed, a, _, h => ⟨h.1, by have e : atW k s w0 w1 w2 listed = w2 := by unfold atW; rw [if_pos (h.2.1 hsz)]
                                   rw [e]; exact hQ _ h.2.2⟩
  | fuel + 1, listed, a, hc, h => by
    refine ⟨fun h0 => ?_, fun i hi => ?_⟩
    · have h1 := h.1 h0
      have e : atW k s w0 w1 w2 listed = w2 := by unfold atW; rw [if_pos (h1.1 hsz)]
      rw [e]; exact hQ _ h1.2
    · have h2 := h.2 i hi
      have hc2 := hc.set hi
      have hun := (mem_ready.1 hi).1
      obtain ⟨hif, hil⟩ := getD_ft hun
      have next : ∀ a', wpAnyF P md ops k s w0 w1 w2 (fun listed a => (s < ops.size → listed.getD s false = true) ∧ Q a) fuel (listed.setIfInBounds i true) a' → wpAny P md ops Q' fuel (listed.setIfInBounds i true) a' (atW k s w0 w1 w2 (listed.setIfInBounds i true)) :=
        fun a' => wpAny_of_flt hks hsz hos hwait hQ fuel _ a' hc2
      unfold fOp at h2
      unfold wpOp
      split
      · rename_i ho; simp only [ho] at h2
        obtain ⟨_, o, ho', _⟩ := mem_ready.1 hi
        rw [ho] at ho'; cases ho'
      · rename_i o ho
        simp only [ho] at h2
        obtain ⟨v, hd, hK⟩ := h2
        have here := next _ hK
        have hset : (listed.setIfInBounds i true).getD i false = true := by simp [hil]
        rcases hd with ⟨hw, hd⟩ | ⟨hw, rfl, hik, his⟩
        · rw [hw, if_pos rfl]
          refine .inl ?_
          unfold Asked at hd
          by_cases hik : i = k
          · subst hik
            rw [if_pos rfl] at hd
            have hsf : listed.getD s false = false := by
              cases hl : listed.getD s false with
              | false => rfl
              | true =>
                obtain ⟨e, he, hb, hon⟩ := hwait
                have := hc s os hos hl e he hb
                rw [hon, hif] at this; cases this
            have e1 : atW i s w0 w1 w2 listed = w0 := by unfold atW; rw [hsf, hif]; rfl
            have e2 : atW i s w0 w1 w2 (listed.setIfInBounds i true) = w1 := by unfold atW; rw [getD_set_ne false hks, hsf, hset]; rfl
            rw [e1]; rw [e2] at here
            exact wp_of_goes hd here
          · rw [if_neg hik] at hd
            by_cases his : i = s
            · subst his
              rw [if_pos rfl] at hd
              have hkt : listed.getD k false = true := by
                obtain ⟨_, o2, ho2, hall⟩ := mem_ready.1 hi
                have : o2 = os := Option.some.inj (ho2.symm.trans hos)
                subst this
                obtain ⟨e, he, hb, hon⟩ := hwait
                rw [← hon]; exact hall e he hb
              have e1 : atW k i w0 w1 w2 listed = w1 := by unfold atW; rw [hif, hkt]; rfl
              have e2 : atW k i w0 w1 w2 (listed.setIfInBounds i true) = w2 := by unfold atW; rw [hset]; rfl
              rw [e1]; rw [e2] at here
              exact wp_of_goes hd here
            · rw [if_neg his] at hd
              obtain ⟨d0, d1, d2⟩ := hd
              have e2 : atW k s w0 w1 w2 (listed.setIfInBounds i true) = atW k s w0 w1 w2 listed := by unfold atW; rw [getD_set_ne false his, getD_set_ne false hik]
              rw [e2] at here
              unfold atW at here ⊢
              split
              · rename_i h1; rw [if_pos h1] at here; exact wp_of_goes d2 here
              · rename_i h1
                rw [if_neg h1] at here
                split
                · rename_i h3; rw [if_pos h3] at here; exact wp_of_goes d1 here
                · rename_i h3; rw [if_neg h3] at here; exact wp_of_goes d0 here
        · rw [hw]
          have e2 : atW k s w0 w1 w2 (listed.setIfInBounds i true) = atW k s w0 w1 w2 listed := by unfold atW; rw [getD_set_ne false his, getD_set_ne false hik]
          rw [e2] at here
          exact here
/-- The law: operation k makes memory wherever it comes, operation s stores behind it; the others leave each of the three worlds alone. -/
theorem wp_region_flt {id : Nat} {Q : Exit → Act → World → Prop} {a : Act} {w : World} {l : List Oper} (k s : Nat) (w1 w2 : World) (hm : P.follows .mixedOrders = true) (hB : Region.lexB .any l.toArray = true)
    (hks : k ≠ s) (hsz : s < l.length) (hwait : (match l[s]? with | some os => os.after.any fun e => Region.binds .any e && e.on == k | none => false) = true)
    (h : wpFlt P l.toArray k s w.drew w1 w2 (fun a' => Q .normal a' w2) 0 l a) : (Code.region id l.toArray true).wp P Q a w := by
  simp only [Region.lexB, Bool.and_eq_true] at hB
  refine wp_region_any hm ?_
  obtain ⟨os, hos⟩ : ∃ os, l[s]? = some os := ⟨_, List.getElem?_eq_getElem hsz⟩
  rw [hos] at hwait
  obtain ⟨e, he, hb⟩ := Array.any_eq_true'.1 hwait
  simp only [Bool.and_eq_true, beq_iff_eq] at hb
  have hx := wpAnyF_lex (P := P) (k := k) (s := s) (w0 := w.drew) (w1 := w1) (w2 := w2) (md := .any) hB.1 l 0 (Array.replicate l.toArray.size false) a (by simp) (by simp) (fun j hj => absurd hj (Nat.not_lt_zero _)) (by simpa using hB.2) h
  have hf : ∀ m j, (Array.replicate m false).getD j false = false := fun m j => by
    rcases Nat.lt_or_ge j m with h | h
    · simp [h]
    · simp [h]
  have hy := wpAny_of_flt (ops := l.toArray) (md := .any) hks (by simpa using hsz) (by simpa using hos) ⟨e, he, hb.1, hb.2⟩ (fun a h => h) _ _ _ (fun j oj _ hl => by rw [hf] at hl; cases hl) hx
  have e0 : atW k s w.drew w1 w2 (Array.replicate l.toArray.size false) = w.drew := by unfold atW; rw [hf, hf]; rfl
  rw [e0] at hy
  simpa using hy
theorem wpFlt_nil {Q : Act → Prop} {i : Nat} {a : Act} (h : Q a) : wpFlt P ops k s w0 w1 w2 Q i [] a := h
/-- A step that leaves the world alone. -/
theorem wpFlt_quiet {Q : Act → Prop} {i : Nat} {a : Act} {o : Oper} {rest : List Oper} (hik : i ≠ k) (his : i ≠ s)
    (h : ∀ K : Act → Prop, (∀ a, wpFlt P ops k s w0 w1 w2 Q (i + 1) rest a → K a) →
      if Region.wanted o (yielded ops a.tmps) then ∃ v, goesTo P w0 w0 v ((execOp a.eval o).run P w0) ∧ goesTo P w1 w1 v ((execOp a.eval o).run P w1) ∧ goesTo P w2 w2 v ((execOp a.eval o).run P w2) ∧ K (a.put o.dst v) else K (a.put o.dst undef)) :
    wpFlt P ops k s w0 w1 w2 Q i (o :: rest) a := by
  have h2 := h _ (fun _ h => h)
  cases hw : Region.wanted o (yielded ops a.tmps)
  · rw [hw] at h2
    exact ⟨undef, .inr ⟨hw, rfl, hik, his⟩, h2⟩
  · rw [hw, if_pos rfl] at h2
    obtain ⟨v, a1, a2, a3, a4⟩ := h2
    refine ⟨v, .inl ⟨hw, ?_⟩, a4⟩
    unfold Asked
    rw [if_neg hik, if_neg his]
    exact ⟨a1, a2, a3⟩
theorem wpFlt_make {Q : Act → Prop} {i : Nat} {a : Act} {o : Oper} {rest : List Oper} (hg : o.guard = none) (hik : i = k)
    (h : ∀ K : Act → Prop, (∀ a, wpFlt P ops k s w0 w1 w2 Q (i + 1) rest a → K a) → ∃ v, goesTo P w0 w1 v ((execOp a.eval o).run P w0) ∧ K (a.put o.dst v)) :
    wpFlt P ops k s w0 w1 w2 Q i (o :: rest) a := by
  obtain ⟨v, a1, a2⟩ := h _ (fun _ h => h)
  refine ⟨v, .inl ⟨by unfold Region.wanted; rw [hg], ?_⟩, a2⟩
  unfold Asked
  rw [if_pos hik]
  exact a1
theorem wpFlt_store {Q : Act → Prop} {i : Nat} {a : Act} {o : Oper} {rest : List Oper} (hg : o.guard = none) (hik : i ≠ k) (his : i = s)
    (h : ∀ K : Act → Prop, (∀ a, wpFlt P ops k s w0 w1 w2 Q (i + 1) rest a → K a) → ∃ v, goesTo P w1 w2 v ((execOp a.eval o).run P w1) ∧ K (a.put o.dst v)) :
    wpFlt P ops k s w0 w1 w2 Q i (o :: rest) a := by
  obtain ⟨v, a1, a2⟩ := h _ (fun _ h => h)
  refine ⟨v, .inl ⟨by unfold Region.wanted; rw [hg], ?_⟩, a2⟩
  unfold Asked
  rw [if_neg hik, if_pos his]
  exact a1
@[go_sem] theorem goesTo_value (w w' x : World) (v u : Value) : goesTo P w w' v (.ok (.value u) x) = (x = w' ∧ u = v) := rfl
@[go_sem] theorem goesTo_skip (w w' x : World) (v : Value) : goesTo P w w' v (.ok .skip x) = (x = w' ∧ v = undef) := rfl
@[go_sem] theorem goesTo_enter (w w' x : World) (v : Value) (f : FuncId) (args : Array Value) : goesTo P w w' v (.ok (.enter f args) x) = (x = w ∧ w' = w ∧ Calls P f args w (fun e w'' => e = .returned v ∧ w'' = w)) := rfl
end

end Go.Proofs.YtejkimhmpnogkaaDoor
