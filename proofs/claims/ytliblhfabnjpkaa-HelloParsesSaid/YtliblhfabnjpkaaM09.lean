/- A region that draws its order: operations that make memory (known by relations alone), then one that waits for all of them, then operations that only hand values on, in whatever order. The document's text that is read piece by piece: take, num, list, some, end. The document's text that is read: numbers. The document's shares of an extension. -/
import Derived.Test.YtliblhfabnjpkaaM08
import Derived.Test.YtliblhfabnjpkaaM02
import Derived.Test.YtliblhfabnjpkaaM01
import Derived.Test.YtliblhfabnjpkaaM04
namespace Go.Proofs.Ytliblhfabnjpkaa
open Go Go.RowKit

section
variable {P : Program} {l T : List Oper} {Q : Exit → Act → World → Prop}
/-- What is asked of the operations: those of T wait for all of l. -/
structure More (l T : List Oper) : Prop where
  ordered : ∀ (i : Nat) (o : Oper), l[i]? = some o → ∀ e ∈ o.after, Region.binds .any e = true → e.on < i
  guards : ∀ (i : Nat) (o : Oper), l[i]? = some o → ∀ j b, o.guard = some (j, b) → j < l.length
  waits : ∀ j, l.length ≤ j → j < l.length + T.length → ∀ i, i < l.length → ∃ o, (l ++ T)[j]? = some o ∧ ∃ e ∈ o.after, Region.binds .any e = true ∧ (e.on = i ∨ pathB (l ++ T).toArray i (l.length + T.length) e.on = true)
def moreB (l T : List Oper) : Bool :=
  ((List.range l.length).all fun i => match l[i]? with
    | some o => (o.after.toList.all fun e => !Region.binds .any e || decide (e.on < i)) && (match o.guard with | some (j, _) => decide (j < l.length) | none => true)
    | none => true) &&
  ((List.range T.length).all fun k => (List.range l.length).all fun i => match T[k]? with
    | some o => o.after.toList.any fun e => Region.binds .any e && (e.on == i || pathB (l ++ T).toArray i (l.length + T.length) e.on)
    | none => false)
theorem More.of (h : moreB l T = true) : More l T := by
  unfold moreB at h
  simp only [Bool.and_eq_true, List.all_eq_true, List.mem_range] at h
  obtain ⟨h1, h2⟩ := h
  have g1 : ∀ (i : Nat) (o : Oper), l[i]? = some o → (∀ e ∈ o.after, Region.binds .any e = true → e.on < i) ∧ ∀ j b, o.guard = some (j, b) → j < l.length := fun i o ho => by
    have hi : i < l.length := (List.getElem?_eq_some_iff.1 ho).1
    have h4 := h1 i hi
    rw [ho] at h4
    simp only [Bool.and_eq_true, List.all_eq_true] at h4
    refine ⟨fun e he hb => ?_, fun j b hg => ?_⟩
    · have := h4.1 e (Array.mem_toList_iff.2 he)
      simpa [hb] using this
    · have := h4.2
      rw [hg] at this
      simpa using this
  refine ⟨fun i o ho => (g1 i o ho).1, fun i o ho => (g1 i o ho).2, fun j hj hj2 i hi => ?_⟩
  have h3 := h2 (j - l.length) (by omega) i hi
  have hk : j - l.length < T.length := by omega
  rw [List.getElem?_eq_getElem hk] at h3
  obtain ⟨e, he, hb⟩ := List.any_eq_true.1 h3
  simp only [Bool.and_eq_true, Bool.or_eq_true, beq_iff_eq] at hb
  exact ⟨T[j - l.length], by rw [List.getElem?_append_right hj, List.getElem?_eq_getElem hk], e, Array.mem_toList_iff.1 he, hb.1, hb.2⟩
/-- All of l have come up, none of T. -/
def upTo (l T : List Oper) : Array Bool := Array.replicate l.length true ++ Array.replicate T.length false
/-- What those of l come to. -/
def befM (P : Program) (l T : List Oper) (Q : Exit → Act → World → Prop) : Exit → Act → World → Prop
  | .normal, a, w => wpAny P .any (l ++ T).toArray Q T.length (upTo l T) a w
  | e, a, w => Q e a w
theorem out_befM (h : LetsOut (befM P l T Q)) : LetsOut Q := h
theorem wp_befM {o : Oper} {a : Act} {w : World} {K K' : Act → World → Prop} (hk : ∀ a w, K a w → K' a w) (hh : o.wp P a w K (befM P l T Q)) : o.wp P a w K' Q := by
  unfold Oper.wp at *
  generalize (execOp a.eval o).run P w = r at *
  cases r with
  | ok n w' =>
    cases n <;> simp only [Oper.upon] at hh ⊢ <;>
      first
        | exact hk _ _ hh
        | exact Calls.mono hh (fun e w'' he => by cases e <;> first | exact hk _ _ he | exact he)
        | exact Rows.mono hh (fun _ _ he => hk _ _ he)
  | halt x w' => cases x <;> simp only [Oper.upon] at hh ⊢ <;> exact hh
theorem get_appM {i : Nat} (h : i < l.length) : (l ++ T).toArray[i]? = l.toArray[i]? := by
  simp [List.getElem?_append_left h]
theorem wanted_appM (hp : More l T) {i : Nat} {o : Oper} (ho : l[i]? = some o) (t : Array Value) : Region.wanted o (yielded (l ++ T).toArray t) = Region.wanted o (yielded l.toArray t) := by
  unfold Region.wanted
  cases hg : o.guard with
  | none => rfl
  | some g =>
    obtain ⟨j, b⟩ := g
    simp only []
    unfold yielded
    rw [get_appM (hp.guards i o ho j b hg)]
theorem wpOp_appM (hp : More l T) {i : Nat} (hi : i < l.length) {a : Act} {w : World} {K K' : Act → World → Prop} (hk : ∀ a w, K a w → K' a w) (h : wpOp P l.toArray (befM P l T Q) i K a w) : wpOp P (l ++ T).toArray Q i K' a w := by
  unfold wpOp at *
  rw [get_appM hi]
  have ho : l.toArray[i]? = some l[i] := by simp
  have ho' : l[i]? = some l[i] := by simp
  simp only [ho] at h ⊢
  rw [wanted_appM hp ho']
  split
  · rename_i hw
    rw [if_pos hw] at h
    exact h.imp (wp_befM hk) (fun ⟨x, y⟩ => ⟨x, out_befM y⟩)
  · rename_i hw
    rw [if_neg hw] at h
    exact hk _ _ h
theorem wpAny_fuel {ops : Array Oper} : ∀ (d f : Nat) (L : Array Bool) (a : Act) (w : World), wpAny P .any ops Q f L a w → wpAny P .any ops Q (f + d) L a w := by
  have one : ∀ (f : Nat) (L : Array Bool) (a : Act) (w : World), wpAny P .any ops Q f L a w → wpAny P .any ops Q (f + 1) L a w := by
    intro f
    induction f with
    | zero => intro L a w h; exact ⟨fun _ => h.2, fun i hi => by rw [h.1] at hi; cases hi⟩
    | succ f ih => intro L a w h; exact ⟨h.1, fun i hi => wpOp_mono (fun a' w' h' => ih _ a' w' h') (h.2 i hi)⟩
  intro d
  induction d with
  | zero => intro f L a w h; exact h
  | succ d ih => intro f L a w h; exact one _ L a w (ih f L a w h)
theorem rep_getD {m i : Nat} (h : i < m) : (Array.replicate m false).getD i true = false := by simp [h]
theorem all_listedM (hp : More l T) {L : Array Bool} (hL : L.size = l.length) (h : Region.ready .any l.toArray L = []) : ∀ i, i < l.length → L.getD i true = true := by
  intro i
  induction i using Nat.strongRecOn with
  | ind i ih =>
    intro hi
    cases hl : L.getD i true with
    | true => rfl
    | false =>
      exfalso
      have : i ∈ Region.ready .any l.toArray L := mem_ready.2 ⟨hl, l[i], by simp, fun e he hb => by
        have h1 := hp.ordered i l[i] (by simp) e he hb
        rw [getD_tf (by omega)]
        exact ih e.on h1 (by omega)⟩
      rw [h] at this
      cases this
theorem upTo_of {L' : Array Bool} (hz : L'.size = l.length + T.length) (h1 : ∀ i, i < l.length → L'.getD i true = true) (h2 : ∀ j, l.length ≤ j → j < l.length + T.length → L'.getD j true = false) : L' = upTo l T := by
  apply Array.ext
  · simp [upTo, hz]
  · intro i hi hi2
    rcases Nat.lt_or_ge i l.length with h | h
    · have := h1 i h
      simp only [Array.getD, hi, dif_pos] at this
      simp only [upTo]
      rw [Array.getElem_append_left (by simpa using h)]
      simpa using this
    · have := h2 i h (by omega)
      simp only [Array.getD, hi, dif_pos] at this
      simp only [upTo]
      rw [Array.getElem_append_right (by simpa using h)]
      simpa using this
theorem wpAny_more (hp : More l T) : ∀ (f : Nat) (L L' : Array Bool) (a : Act) (w : World), Closed .any l.toArray L → L.size = l.length → L'.size = l.length + T.length → (∀ i, i < l.length → L'.getD i true = L.getD i true) → (∀ j, l.length ≤ j → j < l.length + T.length → L'.getD j true = false) →
    wpAny P .any l.toArray (befM P l T Q) f L a w → wpAny P .any (l ++ T).toArray Q (f + T.length) L' a w := by
  have fin : ∀ (d : Nat) (L L' : Array Bool) (a : Act) (w : World), L.size = l.length → L'.size = l.length + T.length → (∀ i, i < l.length → L'.getD i true = L.getD i true) → (∀ j, l.length ≤ j → j < l.length + T.length → L'.getD j true = false) → Region.ready .any l.toArray L = [] → befM P l T Q .normal a w →
      wpAny P .any (l ++ T).toArray Q (d + T.length) L' a w := fun d L L' a w hL hL' hag hn hr hb => by
    have hall := all_listedM hp hL hr
    rw [upTo_of hL' (fun i hi => (hag i hi).trans (hall i hi)) hn, Nat.add_comm]
    exact wpAny_fuel d _ _ _ _ hb
  intro f
  induction f with
  | zero =>
    intro L L' a w hc hL hL' hag hn h
    exact fin 0 L L' a w hL hL' hag hn h.1 h.2
  | succ f ih =>
    intro L L' a w hc hL hL' hag hn h
    by_cases hz : Region.ready .any l.toArray L = []
    · exact fin (f + 1) L L' a w hL hL' hag hn hz (h.1 hz)
    · have hsub : ∀ i, i ∈ Region.ready .any (l ++ T).toArray L' → i ∈ Region.ready .any l.toArray L := fun i hi => by
        obtain ⟨h1, o, ho, h2⟩ := mem_ready.1 hi
        have hjl : i < (l ++ T).toArray.size := (Array.getElem?_eq_some_iff.1 ho).1
        simp at hjl
        rcases Nat.lt_or_ge i l.length with h3 | h3
        · refine mem_ready.2 ⟨by rw [← hag i h3]; exact h1, o, by rw [← get_appM h3]; exact ho, fun e he hb => ?_⟩
          have h4 := hp.ordered i o (by rw [get_appM h3] at ho; simpa using ho) e he hb
          have h5 := h2 e he hb
          rw [getD_tf (by omega)] at h5 ⊢
          rw [← hag e.on (by omega)]
          exact h5
        · exfalso
          have hcl : Closed .any (l ++ T).toArray L' := fun j oj hoj hl e he hb => by
            rcases Nat.lt_or_ge j l.length with hj | hj
            · have hoj' : l.toArray[j]? = some oj := by rw [← get_appM hj]; exact hoj
              have h4 := hp.ordered j oj (by simpa using hoj') e he hb
              rw [getD_tf (by omega)] at hl
              have := hc j oj hoj' (by rw [getD_tf (by omega), ← hag j hj]; exact hl) e he hb
              rw [getD_tf (by omega), ← hag e.on (by omega)] at this
              rw [getD_tf (by omega)]; exact this
            · exfalso
              have hjl2 : j < (l ++ T).toArray.size := (Array.getElem?_eq_some_iff.1 hoj).1
              simp at hjl2
              rw [getD_tf (by omega), hn j hj hjl2] at hl
              cases hl
          apply hz
          refine List.eq_nil_iff_forall_not_mem.2 fun j hj => ?_
          obtain ⟨g1, oj, hoj, _⟩ := mem_ready.1 hj
          have hjl2 : j < l.toArray.size := (Array.getElem?_eq_some_iff.1 hoj).1
          simp at hjl2
          obtain ⟨o2, ho2, e, he, hb, hp2⟩ := hp.waits i h3 hjl j hjl2
          have : o2 = o := by
            have h6 : (l ++ T)[i]? = some o := by simpa using ho
            exact Option.some.inj (ho2.symm.trans h6)
          subst this
          have h7 := h2 e he hb
          have h8 : L'.getD j false = true := by
            rcases hp2 with hp2 | hp2
            · rw [← hp2]; exact h7
            · exact path_listed hcl j _ e.on hp2 h7
          rw [getD_tf (by omega), hag j hjl2] at h8
          rw [h8] at g1
          cases g1
      rw [show f + 1 + T.length = (f + T.length) + 1 by omega]
      refine ⟨fun h0 => ?_, fun i hi => ?_⟩
      · exfalso
        obtain ⟨j, hj⟩ := List.exists_mem_of_ne_nil _ hz
        obtain ⟨h1, o, ho, h2⟩ := mem_ready.1 hj
        have h3 : j < l.length := by have := (Array.getElem?_eq_some_iff.1 ho).1; simpa using this
        have : j ∈ Region.ready .any (l ++ T).toArray L' := mem_ready.2 ⟨by rw [hag j h3]; exact h1, o, by rw [get_appM h3]; exact ho, fun e he hb => by
          have h4 := hp.ordered j o (by simpa using ho) e he hb
          have h5 := h2 e he hb
          rw [getD_tf (by omega)] at h5 ⊢
          rw [hag e.on (by omega)]
          exact h5⟩
        rw [h0] at this
        cases this
      · have hi' := hsub i hi
        obtain ⟨_, o, ho, _⟩ := mem_ready.1 hi'
        have h3 : i < l.length := by have := (Array.getElem?_eq_some_iff.1 ho).1; simpa using this
        refine wpOp_appM hp h3 (fun a' w' hk => ih (L.setIfInBounds i true) (L'.setIfInBounds i true) a' w' (hc.set hi') (by simpa using hL) (by simpa using hL') (fun j hj => ?_) (fun j hj hj2 => ?_) hk) (h.2 i hi')
        · by_cases hij : i = j
          · subst hij; simp [hL, hL', h3, Nat.lt_of_lt_of_le h3 (Nat.le_add_right _ _)]
          · rw [getD_set_ne true hij, getD_set_ne true hij]; exact hag j hj
        · rw [getD_set_ne true (by omega)]; exact hn j hj hj2
/-- What comes behind the operation that waits for all others. -/
def thenStill (P : Program) (ops : Array Oper) (T : List Oper) (Q : Exit → Act → World → Prop) : Exit → Act → World → Prop
  | .normal, a, w => wpStill P ops w (fun a' => Q .normal a' w) T a
  | e, a, w => Q e a w
/-- The law: private operations, one operation that waits for all of them, and then such as only hand values on. -/
theorem wp_region_gho_then {id : Nat} {a : Act} {w : World} {l' : List Oper} (n : Nat) (pv : List Nat) (Rel : Nat → Value → World → Prop) (hm : P.follows .mixedOrders = true) (hB : Region.lexB .any (l'.take n).toArray = true) (hP : privB (l'.take n).toArray pv = true)
    (hpl : peelsB .any (l'.take n) ((l'.drop n).take 1) = true) (hmo : moreB (l'.take n ++ (l'.drop n).take 1) (l'.drop (n + 1)) = true) (hsel : Region.noSelect l'.toArray = true)
    (hlex : Region.lexFrom .any l'.toArray (l'.drop (n + 1)).length (n + 1) (upTo (l'.take n ++ (l'.drop n).take 1) (l'.drop (n + 1))) = true) (hn : n < l'.length)
    (hR : ∀ p u w w', Rel p u w → Below w.heap.size w w' → Rel p u w')
    (h : wpGho P (l'.take n).toArray pv Rel (fun w' => ∃ x : Later w, w' = x.w') (Post1 pv Rel) (fun a' => ∀ g w', (∃ x : Later w, w' = x.w') → (∀ p ∈ pv, Rel p (g p) w') → wpList P l'.toArray (thenStill P l'.toArray (l'.drop (n + 1)) Q) ((l'.drop n).take 1) (over (l'.take n).toArray pv g a') w') 0 (l'.take n) a) : (Code.region id l'.toArray true).wp P Q a w := by
  have hl : l' = (l'.take n ++ (l'.drop n).take 1) ++ l'.drop (n + 1) := by
    rw [List.append_assoc, show l'.drop (n + 1) = (l'.drop n).drop 1 by rw [List.drop_drop, Nat.add_comm], List.take_append_drop, List.take_append_drop]
  have hlen : (l'.take n ++ (l'.drop n).take 1).length = n + 1 := by
    rw [List.length_append, List.length_take, List.length_take, List.length_drop]; omega
  refine wp_region_any hm ?_
  obtain ⟨T, hT⟩ : ∃ T, l'.drop (n + 1) = T := ⟨_, rfl⟩
  obtain ⟨t1, ht1⟩ : ∃ t, (l'.drop n).take 1 = t := ⟨_, rfl⟩
  obtain ⟨l, hll⟩ : ∃ x, l'.take n = x := ⟨_, rfl⟩
  rw [hT, ht1, hll] at hl hmo hlex
  rw [ht1, hll] at hlen hpl
  rw [hT, ht1, hll] at h
  rw [hll] at hB hP
  have hmain : ∀ (a : Act) (w : World), thenStill P l'.toArray T Q .normal a w → befM P (l ++ t1) T Q .normal a w := fun a w hs => by
    show wpAny P .any ((l ++ t1) ++ T).toArray Q T.length (upTo (l ++ t1) T) a w
    rw [← hl]
    exact wpAny_of_still (fun a h => h) _ _ _ (wpAnyS_lex hsel T (n + 1) _ a (fun j => by
      rw [hl]
      simp only [List.getElem?_toArray]
      rw [List.getElem?_append_right (by omega), hlen]
      congr 1; omega) hlex hs)
  simp only [Region.lexB, Bool.and_eq_true] at hB
  have hp := Priv.of hP
  have htail : ∀ (tail : List Oper) (m : List Oper) (a : Act) (w : World), (∀ o ∈ tail, o.guard.isNone = true) → wpList P l'.toArray (thenStill P l'.toArray T Q) tail a w → wpList P l'.toArray (befM P (l ++ t1) T Q) tail a w := fun tail m => by
    induction tail with
    | nil => intro a w _ h; exact hmain a w h
    | cons o tail ih =>
      intro a w hg h
      have hgn : o.guard = none := by simpa using hg o (by simp)
      unfold wpList at h ⊢
      have hw : Region.wanted o (yielded l'.toArray a.tmps) = true := by unfold Region.wanted; rw [hgn]
      simp only [hw, if_true] at h ⊢
      refine h.imp (fun h => ?_) (fun h => h)
      unfold Oper.wp at *
      generalize (execOp a.eval o).run P w = r at *
      have hk := fun a w h => ih a w (fun o ho => hg o (by simp [ho])) h
      cases r with
      | ok x w' =>
        cases x <;> simp only [Oper.upon] at h ⊢ <;>
          first
            | exact hk _ _ h
            | exact Calls.mono h (fun e w'' he => by cases e <;> first | exact hk _ _ he | exact he)
            | exact Rows.mono h (fun _ _ he => hk _ _ he)
      | halt x w' => cases x <;> simp only [Oper.upon] at h ⊢ <;> exact h
  have hgd : ∀ o ∈ t1, o.guard.isNone = true := by
    have : ∀ (t m : List Oper), peelsB .any m t = true → ∀ o ∈ t, o.guard.isNone = true := by
      intro t
      induction t with
      | nil => intro m _ o ho; cases ho
      | cons s t ih =>
        intro m hpm o ho
        unfold peelsB at hpm
        simp only [Bool.and_eq_true] at hpm
        rcases List.mem_cons.1 ho with rfl | ho
        · exact hpm.2.1
        · exact ih _ hpm.2.2 o ho
    exact this t1 l hpl
  have h' : wpGho P l.toArray pv Rel (fun w' => ∃ x : Later w, w' = x.w') (Post1 pv Rel) (fun a' => ∀ g w', (∃ x : Later w, w' = x.w') → (∀ p ∈ pv, Rel p (g p) w') → beforeL P l t1 (befM P (l ++ t1) T Q) .normal (over l.toArray pv g a') w') 0 l a := by
    refine (?_ : ∀ (k : Nat) (m : List Oper) (b : Act), wpGho P l.toArray pv Rel (fun w' => ∃ x : Later w, w' = x.w') (Post1 pv Rel) _ k m b → wpGho P l.toArray pv Rel (fun w' => ∃ x : Later w, w' = x.w') (Post1 pv Rel) _ k m b) 0 l a h
    intro k m
    induction m generalizing k with
    | nil =>
      intro b hb g w' hw hr
      exact beforeL_normal t1 l hpl (htail t1 l _ _ hgd (hb g w' hw hr))
    | cons o m ih =>
      rintro b ⟨v, h1, h2⟩
      exact ⟨v, h1, ih _ _ h2⟩
  have hx := wpAnyG_lex (P := P) (pv := pv) (Rel := Rel) (C := fun w' => ∃ x : Later w, w' = x.w') hp hB.1 l 0 (Array.replicate l.toArray.size false) a (by simp) (by simp) (fun j hj => absurd hj (Nat.not_lt_zero _)) (by simpa using hB.2) h'
  have hf : ∀ m j, (Array.replicate m false).getD j false = false := fun m j => by
    rcases Nat.lt_or_ge j m with h | h
    · simp [h]
    · simp [h]
  have hy := wpAny_of_gho (P := P) (ops := l.toArray) (pv := pv) (Rel := Rel) (C := fun w' => ∃ x : Later w, w' = x.w') (Post := Post1 pv Rel) hp (Region.noSelect_spec hB.1) (Q' := beforeL P l t1 (befM P (l ++ t1) T Q)) l.length (fun _ _ => True)
    (fun hm => by obtain ⟨o, _, ho, _⟩ := hp.has _ hm; simp at ho) (fun o ho => by simp at ho) (fun listed hz _ hl => by
      have hz' : listed.size = l.length := by simpa using hz
      simp [Array.getElem?_eq_none (xs := listed) (i := l.length) (by omega)] at hl) (fun w1 w2 ⟨x, hx⟩ hb => by
      subst hx; exact ⟨⟨w2, below_to x.h hb⟩, rfl⟩) hR (fun _ _ _ _ _ => trivial) (fun _ _ _ _ _ _ _ h => h) (fun hlt => by simp at hlt) (fun g a w' hw _ hr hq => hq g w' hw (hr (by simp))) _ _ _ (fun _ => undef) a w.drew (fun j oj _ hl => by rw [hf] at hl; cases hl)
    ⟨rfl, rfl, fun t _ => by
      unfold valAt
      have : (pv.find? fun p => (Array.replicate l.toArray.size false).getD p false && dstOf l.toArray p == some t) = none := by
        rw [List.find?_eq_none]; intro p _; rw [hf]; simp
      rw [this]⟩ ⟨⟨w.drew, (Below.refl _ _).drew⟩, rfl⟩ (fun _ => trivial) (fun _ p _ hl => by rw [hf] at hl; cases hl) (by simp) hx
  have hz := wpAny_peels (md := .any) t1 l _ _ (Array.replicate (l.length + t1.length) false) a w.drew hpl (fun j oj _ hl => by rw [hf] at hl; cases hl) (by simp) (fun i hi => by simp [hi]) rfl (by simp) hy
  have hq := wpAny_more (l := l ++ t1) (T := T) (Q := Q) (More.of hmo) _ _ (Array.replicate ((l ++ t1).length + T.length) false) a w.drew (fun j oj _ hl => by rw [hf] at hl; cases hl) (by simp) (by simp) (fun i hi => by
    rw [rep_getD (by omega), rep_getD (by rw [← List.length_append]; exact hi)]) (fun j hj hj2 => rep_getD hj2) hz
  rw [← hl] at hq
  have e1 : l.length + t1.length + T.length = l'.toArray.size := by
    have := congrArg List.length hl
    simp only [List.length_append] at this
    simp only [List.size_toArray]; omega
  rw [List.length_append, e1] at hq
  simpa [e1] using hq
end
end Go.Proofs.Ytliblhfabnjpkaa

namespace Go.Proofs.Ytliblhfabnjpkaa
open Go Go.RowKit

namespace HE
/-- The value of what was read; of nothing, if it failed. -/
def rv (r : Option (BS × BS)) : BS := match r with | some p => p.1 | none => []
def rn (r : Option (Nat × BS)) : Nat := match r with | some p => p.1 | none => 0
def rs {α : Type} (r : Option (α × BS)) : Option BS := r.map fun p => p.2
def someO (o : Option BS) (s : BS) : Option BS := if s = [] then none else o
def endO (o : Option BS) : Option BS := o.bind fun s => if s = [] then some [] else none
end HE
/-- The document's text at block P: none, if its error is set. -/
def TS (w : World) (P : Nat) : Option HE.BS → Prop
  | some t => hget w P = some (.cells #[.string ⟨t.toArray⟩, .int .i64 0] 83 (0, 0)) ∧ t.length ≤ 1000000
  | none => ∃ s : HE.BS, hget w P = some (.cells #[.string ⟨s.toArray⟩, .int .i64 270] 83 (0, 0)) ∧ s.length ≤ 1000000
theorem TS.out {w w' : World} {P : Nat} {o : Option HE.BS} {ex : Nat → Prop} (h : TS w P o) (ho : Out ex w w') (hP : ¬ ex P) : TS w' P o := by
  cases o with
  | some t => exact ⟨ho.get h.1 hP, h.2⟩
  | none => obtain ⟨s, h1, h2⟩ := h; exact ⟨s, ho.get h1 hP, h2⟩
theorem TS.below {w w' : World} {P : Nat} {o : Option HE.BS} (h : TS w P o) (hb : Below w.heap.size w w') : TS w' P o := by
  cases o with
  | some t => exact ⟨keepB hb h.1, h.2⟩
  | none => obtain ⟨s, h1, h2⟩ := h; exact ⟨s, keepB hb h1, h2⟩
theorem TS.lt {w : World} {P : Nat} {o : Option HE.BS} (h : TS w P o) : P < w.heap.size := by
  cases o with
  | some t => exact hget_lt h.1
  | none => obtain ⟨s, h1, h2⟩ := h; exact hget_lt h1
/-- What a method gives. -/
def TGives (f : FuncId) (args : Array Value) (w : World) (P : Nat) (o' : Option HE.BS) (v : Value) : Prop :=
  Calls Try.prog f args w fun e w' => Out (· = P) w w' ∧ e = .returned v ∧ TS w' P o'
section
variable {w : World} {P : Nat} {o : Option HE.BS}
set_option maxHeartbeats 2000000 in
theorem rtake_any (h : TS w P o) (n : Nat) (hn : n ≤ 1000000) : TGives 39 #[.pointer (some ⟨P, 0, none⟩), .int .i64 (n : Int)] w P (HE.rs (o.bind (HE.take n))) (.string ⟨(HE.rv (o.bind (HE.take n))).toArray⟩) := by
  unfold TGives
  cases o with
  | none =>
    have h0 := h
    obtain ⟨s, hg, hsl⟩ := h
    have c0 : w.cell? ⟨P, 0, none⟩ = some (.string ⟨s.toArray⟩) := cell_at hg 0
    have c1 : w.cell? ⟨P, 1, none⟩ = some (.int .i64 270) := cell_at hg 1
    have H0 := hid h0
    simp only [Option.bind_none]
    clear h0 hg
    go_enter Try.func39, Try.ntmps39
    go_wp2_with fail
    go_ret
    exact ⟨Out.refl _ _, rfl, H0.out⟩
  | some t =>
    obtain ⟨hg, hsl⟩ := h
    simp only [Option.bind_some]
    have c0 : w.cell? ⟨P, 0, none⟩ = some (.string ⟨t.toArray⟩) := cell_at hg 0
    have c1 : w.cell? ⟨P, 1, none⟩ = some (.int .i64 0) := cell_at hg 1
    have f0 := free_at hg
    have hs := text_size t
    by_cases hl : n ≤ t.length
    · have e1 := text_take t n
      have e2 := text_drop t n hl
      have hr : HE.take n t = some (t.take n, t.drop n) := if_pos hl
      rw [hr]
      have hdl : (t.drop n).length ≤ 1000000 := by rw [List.length_drop]; omega
      obtain ⟨T, hT⟩ : ∃ T, (⟨t.toArray⟩ : ByteArray) = T := ⟨_, rfl⟩
      obtain ⟨L, hL⟩ : ∃ L, t.length = L := ⟨_, rfl⟩
      rw [hT] at c0 hs e1 e2
      rw [hL] at hs e2 hl hsl
      have d1 : decide ((L : Int) < (n : Int)) = false := decide_eq_false (by omega)
      have d2 : decide (L < n) = false := decide_eq_false (by omega)
      have HG := hid hg
      have E1 := hid e1
      have E2 := hid e2
      have HDL := hid hdl
      clear hr hT e1 e2 hg hdl hL
      go_enter Try.func39, Try.ntmps39
      go_wp2_with fail
      go_ret
      refine ⟨(Out.refl (fun k => k = P) _).setCell (p := ⟨P, 0, none⟩) (.inl rfl) _, ?_, ?_, HDL.out⟩
      · show Ending.returned (Value.string _) = _
        rw [E1.out]; rfl
      · rw [E2.out]
        exact hget_setCell HG.out 0 _
    · have hr : HE.take n t = none := if_neg hl
      have d1 : decide ((t.length : Int) < (n : Int)) = true := decide_eq_true (by omega)
      have d2 : decide (t.length < n) = true := decide_eq_true (by omega)
      rw [hr]
      have HG := hid hg
      clear hr hg
      go_enter Try.func39, Try.ntmps39
      go_wp2_with fail
      go_ret
      exact ⟨(Out.refl (fun k => k = P) _).setCell (p := ⟨P, 1, none⟩) (.inl rfl) _, rfl, t, hget_setCell HG.out 1 _, hsl⟩
theorem ridx_str (B : HE.BS) (j : Nat) (h : j < B.length) (w : World) :
    (Instr.index 9 (.string ⟨B.toArray⟩) (.int .i64 (j : Int))).run Try.prog w = .ok (.int .u8 ((B.getD j 0).toNat : Int)) w := by
  have hs := text_size B
  rw [run_index_string w 9 _ _ _ Try.underlying9, dif_pos ⟨Int.natCast_nonneg j, by rw [hs]; omega⟩]
  simp only [Int.toNat_natCast]
  rw [List.getD_eq_getElem?_getD, List.getElem?_eq_getElem h]
  rfl
theorem HE.rv_len {n : Nat} {o : Option HE.BS} : (HE.rv (o.bind (HE.take n))).length ≤ n := by
  cases o with
  | none => exact Nat.zero_le _
  | some t =>
    simp only [Option.bind_some]
    cases h : HE.take n t with
    | none => exact Nat.zero_le _
    | some p => obtain ⟨a, r⟩ := p; obtain ⟨_, h2, _⟩ := HE.take_some h; show a.length ≤ n; rw [h2, List.length_take]; omega
theorem HE.rn_num (n : Nat) (o : Option HE.BS) : HE.rn (o.bind (HE.num n)) = HE.numL (HE.rv (o.bind (HE.take n))) ∧ HE.rs (o.bind (HE.num n)) = HE.rs (o.bind (HE.take n)) := by
  cases o with
  | none => exact ⟨rfl, rfl⟩
  | some t =>
    simp only [Option.bind_some, HE.num]
    cases HE.take n t with
    | none => exact ⟨rfl, rfl⟩
    | some p => exact ⟨rfl, rfl⟩
attribute [-go_sem] run_index_string in
set_option maxHeartbeats 2000000 in
theorem rnum_t (h : TS w P o) (n : Nat) (hn : n ≤ 2) : TGives 62 #[.pointer (some ⟨P, 0, none⟩), .int .i64 (n : Int)] w P (HE.rs (o.bind (HE.num n))) (.int .i64 (HE.rn (o.bind (HE.num n)) : Int)) := by
  have htk := rtake_any h n (by omega)
  obtain ⟨e1, e2⟩ := HE.rn_num n o
  rw [e1, e2]
  have hlen := HE.rv_len (n := n) (o := o)
  generalize HE.rs (o.bind (HE.take n)) = o' at *
  generalize HE.rv (o.bind (HE.take n)) = a at *
  unfold TGives at htk ⊢
  have HT := hid htk
  have hs := text_size a
  clear htk e1 e2 h
  go_enter Try.func62, Try.ntmps62
  go_wp2_with fail
  refine HT.out.mono ?_
  rintro e w1 ⟨ho, rfl, hp1⟩
  have HO := hid ho
  have HP := hid hp1
  clear ho hp1 HT
  go_wp2_with fail
  go_loopw [6, 7] (fun x i wr => ∃ k : Nat, k ≤ a.length ∧ i = .int .i64 (k : Int) ∧ x = .int .i64 ((HE.numL (a.take k) : Nat) : Int) ∧ wr = w1) (fun _ i _ => (a.length - intOf i).toNat)
  case atStart => exact ⟨0, Nat.zero_le _, rfl, by simp [HE.numL], rfl⟩
  case round =>
    obtain ⟨k, hk, rfl, rfl, rfl⟩ := hrel
    by_cases hkn : k < a.length
    · have dk : decide ((k : Int) < (a.length : Int)) = true := decide_eq_true (by omega)
      have hst : HE.numL (a.take (k + 1)) = HE.numL (a.take k) * 256 + (a.getD k 0).toNat := by
        rw [List.take_succ_eq_append_getElem hkn, HE.numL_snoc, List.getD_eq_getElem?_getD, List.getElem?_eq_getElem hkn]
        rfl
      have hlt := HE.numL_lt (a.take k)
      have hx : HE.numL (a.take k) < 256 := by
        have h1 : (a.take k).length ≤ 1 := by rw [List.length_take]; omega
        refine Nat.lt_of_lt_of_le hlt ?_
        exact Nat.pow_le_pow_right (n := 256) (by decide) h1
      have x1 := fun w => ridx_str a k hkn w
      have hcl := (a.getD k 0).toNat_lt
      generalize (a.getD k 0).toNat = c at *
      generalize HE.numL (a.take k) = x at *
      have HST := hid hst
      have hi0 : 0 ≤ (k : Int) := by omega
      have hi1 : (k : Int) < (a.length : Int) := by omega
      obtain ⟨S, hS⟩ : ∃ S, (⟨a.toArray⟩ : ByteArray) = S := ⟨_, rfl⟩
      rw [hS] at x1 hs ⊢
      clear hst hlt hS
      go_wp2_with fail
      rw [or_low x c hx hcl]
      exact ⟨⟨k + 1, by omega, by go_num, by rw [HST.out], trivial⟩, by simp only [intOf]; omega⟩
    · have dk : decide ((k : Int) < (a.length : Int)) = false := decide_eq_false (by omega)
      obtain rfl : k = a.length := by omega
      have HN := hid (show HE.numL (a.take a.length) = HE.numL a by rw [List.take_length])
      go_wp2_with fail
      go_ret
      exact ⟨HO.out, by rw [HN.out]; rfl, HP.out⟩
theorem HE.text_take (n : Nat) (o : Option HE.BS) : (HE.rs (o.bind (HE.num n))).bind (HE.take (HE.rn (o.bind (HE.num n)))) = o.bind (HE.text n) := by
  cases o with
  | none => rfl
  | some t =>
    simp only [Option.bind_some, HE.text]
    cases HE.num n t with
    | none => rfl
    | some p => rfl
theorem HE.rn_lt (n : Nat) (o : Option HE.BS) (hn : n ≤ 2) : HE.rn (o.bind (HE.num n)) < 65536 := by
  cases o with
  | none => exact (by decide : (0 : Nat) < 65536)
  | some t =>
    simp only [Option.bind_some]
    cases h : HE.num n t with
    | none => exact (by decide : (0 : Nat) < 65536)
    | some p => obtain ⟨x, r⟩ := p; exact Nat.lt_of_lt_of_le (HE.num_some h).2 (Nat.pow_le_pow_right (n := 256) (by decide) hn)
set_option maxHeartbeats 2000000 in
theorem rlist_t (h : TS w P o) (n : Nat) (hn : n ≤ 2) : TGives 40 #[.pointer (some ⟨P, 0, none⟩), .int .i64 (n : Int)] w P (HE.rs (o.bind (HE.text n))) (.string ⟨(HE.rv (o.bind (HE.text n))).toArray⟩) := by
  have hnm := rnum_t h n hn
  have hlt := HE.rn_lt n o hn
  have htt := HE.text_take n o
  generalize HE.rn (o.bind (HE.num n)) = x at *
  generalize HE.rs (o.bind (HE.num n)) = o1 at *
  rw [← htt]
  unfold TGives at hnm ⊢
  have HN := hid hnm
  clear hnm htt h
  go_enter Try.func40, Try.ntmps40
  go_wp2_with fail
  refine HN.out.mono ?_
  rintro e w1 ⟨ho, rfl, hp1⟩
  have htk := rtake_any hp1 x (by omega)
  unfold TGives at htk
  have HT := hid htk
  have HO := hid ho
  clear ho hp1 htk HN
  go_wp2_with fail
  refine HT.out.mono ?_
  rintro e w2 ⟨ho2, rfl, hp2⟩
  have HO2 := hid (HO.out.then ho2)
  have HP2 := hid hp2
  clear ho2 hp2
  go_wp2_with fail
  go_ret
  exact ⟨HO2.out, rfl, HP2.out⟩
set_option maxHeartbeats 2000000 in
theorem rsome_t (h : TS w P o) (s : HE.BS) : TGives 73 #[.pointer (some ⟨P, 0, none⟩), .string ⟨s.toArray⟩] w P (HE.someO o s) (.string ⟨s.toArray⟩) := by
  unfold TGives
  have hemp := str_empty s
  unfold HE.someO
  obtain ⟨S, hS⟩ : ∃ S, (⟨s.toArray⟩ : ByteArray) = S := ⟨_, rfl⟩
  rw [hS] at hemp ⊢
  cases o with
  | none =>
    have h0 := h
    obtain ⟨t, hg, hsl⟩ := h
    have c1 : w.cell? ⟨P, 1, none⟩ = some (.int .i64 270) := cell_at hg 1
    have H0 := hid h0
    rw [ite_self]
    clear h0 hg hS
    go_enter Try.func73, Try.ntmps73
    go_wp2_with fail
    go_ret
    exact ⟨Out.refl _ _, rfl, H0.out⟩
  | some t =>
    have h0 := h
    obtain ⟨hg, hsl⟩ := h
    have c1 : w.cell? ⟨P, 1, none⟩ = some (.int .i64 0) := cell_at hg 1
    have f0 := free_at hg
    have H0 := hid h0
    have HG := hid hg
    clear h0 hg hS
    by_cases hs : s = []
    · rw [decide_eq_true hs] at hemp
      rw [if_pos hs]
      clear hs
      go_enter Try.func73, Try.ntmps73
      go_wp2_with fail
      go_ret
      exact ⟨(Out.refl (fun k => k = P) _).setCell (p := ⟨P, 1, none⟩) (.inl rfl) _, rfl, t, hget_setCell HG.out 1 _, hsl⟩
    · rw [decide_eq_false hs] at hemp
      rw [if_neg hs]
      clear hs
      go_enter Try.func73, Try.ntmps73
      go_wp2_with fail
      go_ret
      exact ⟨Out.refl _ _, rfl, H0.out⟩
set_option maxHeartbeats 2000000 in
theorem rends_t (h : TS w P o) : Calls Try.prog 42 #[.pointer (some ⟨P, 0, none⟩)] w fun e w' => Out (· = P) w w' ∧ e = .returned (.tuple #[]) ∧ TS w' P (HE.endO o) := by
  unfold HE.endO
  cases o with
  | none =>
    have h0 := h
    obtain ⟨t, hg, hsl⟩ := h
    have c1 : w.cell? ⟨P, 1, none⟩ = some (.int .i64 270) := cell_at hg 1
    have H0 := hid h0
    rw [Option.bind_none]
    clear h0 hg
    go_enter Try.func42, Try.ntmps42
    go_wp2_with fail
    go_end0
    exact ⟨Out.refl _ _, rfl, H0.out⟩
  | some t =>
    have h0 := h
    obtain ⟨hg, hsl⟩ := h
    rw [Option.bind_some]
    have c0 : w.cell? ⟨P, 0, none⟩ = some (.string ⟨t.toArray⟩) := cell_at hg 0
    have c1 : w.cell? ⟨P, 1, none⟩ = some (.int .i64 0) := cell_at hg 1
    have f0 := free_at hg
    have hemp := str_empty t
    have H0 := hid h0
    have HG := hid hg
    clear h0 hg
    by_cases hs : t = []
    · rw [decide_eq_true hs] at hemp
      rw [if_pos hs]
      subst hs
      go_enter Try.func42, Try.ntmps42
      go_wp2_with fail
      go_end0
      exact ⟨Out.refl _ _, rfl, H0.out⟩
    · rw [decide_eq_false hs] at hemp
      rw [if_neg hs]
      obtain ⟨S, hS⟩ : ∃ S, (⟨t.toArray⟩ : ByteArray) = S := ⟨_, rfl⟩
      rw [hS] at hemp c0
      clear hs
      go_enter Try.func42, Try.ntmps42
      go_wp2_with fail
      go_end0
      exact ⟨(Out.refl (fun k => k = P) _).setCell (p := ⟨P, 1, none⟩) (.inl rfl) _, rfl, t, hget_setCell HG.out 1 _, hsl⟩
end
end Go.Proofs.Ytliblhfabnjpkaa

namespace Go.Proofs.Ytliblhfabnjpkaa
open Go Go.RowKit
namespace HE
def rl (r : Option (List Nat × BS)) : List Nat := match r with | some p => p.1 | none => []
theorem pairs_odd : ∀ s : BS, s.length % 2 ≠ 0 → pairs s = none
  | [], h => absurd rfl h
  | [_], _ => rfl
  | a :: b :: r, h => by
    rw [show pairs (a :: b :: r) = (pairs r).map fun l => (a.toNat * 256 + b.toNat) :: l from rfl, pairs_odd r (by simp only [List.length_cons] at h; omega)]
    rfl
theorem pairs_even : ∀ s : BS, s.length % 2 = 0 → ∃ l, pairs s = some l ∧ s.length = 2 * l.length ∧ ∀ k, k < l.length → l[k]? = some ((s.getD (2 * k) 0).toNat * 256 + (s.getD (2 * k + 1) 0).toNat)
  | [], _ => ⟨[], rfl, rfl, fun k h => absurd h (Nat.not_lt_zero k)⟩
  | [_], h => by simp at h
  | a :: b :: r, h => by
    obtain ⟨l, h1, h2, h3⟩ := pairs_even r (by simp only [List.length_cons] at h; omega)
    refine ⟨(a.toNat * 256 + b.toNat) :: l, by rw [show pairs (a :: b :: r) = (pairs r).map fun l => (a.toNat * 256 + b.toNat) :: l from rfl, h1]; rfl, by simp only [List.length_cons]; omega, fun k hk => ?_⟩
    match k, hk with
    | 0, _ => rfl
    | k + 1, hk =>
      have h4 := h3 k (by simp only [List.length_cons] at hk; omega)
      rw [List.getElem?_cons_succ, h4, show 2 * (k + 1) = 2 * k + 1 + 1 by omega]
      rfl
end HE
theorem or_low16 (x c : Nat) (hx : x < 256) (hc : c < 256) : bits .or .u16 ((x : Int) * 256) (c : Int) = ((x * 256 + c : Nat) : Int) := by
  have h1 := Nat.shiftLeft_add_eq_or_of_lt (b := c) (i := 8) hc x
  rw [Nat.shiftLeft_eq, show 2 ^ 8 = 256 by decide] at h1
  have e : (x : Int) * 256 = ((x * 256 : Nat) : Int) := by rw [Int.natCast_mul]; rfl
  rw [e]
  show IntKind.u16.wrap ((BitVec.ofInt 16 ((x * 256 : Nat) : Int) ||| BitVec.ofInt 16 (c : Int)).toNat : Int) = _
  have o16 : ∀ n : Nat, n < 65536 → (BitVec.ofInt 16 (n : Int)).toNat = n := fun n h => by
    rw [BitVec.ofInt_natCast, BitVec.toNat_ofNat]
    exact Nat.mod_eq_of_lt h
  rw [BitVec.toNat_or, o16 _ (by omega), o16 _ (by omega), ← h1]
  rw [IntKind.wrap_u16]
  omega
section
variable {w : World} {P : Nat} {o : Option HE.BS}
attribute [-go_sem] run_index_string in
set_option maxRecDepth 100000 in
set_option maxHeartbeats 4000000 in
theorem rnumbers_t (h : TS w P o) (n : Nat) (hn : n ≤ 2) : Calls Try.prog 41 #[.pointer (some ⟨P, 0, none⟩), .int .i64 (n : Int)] w fun e w' =>
    Out (· = P) w w' ∧ TS w' P (HE.rs (o.bind (HE.numbers n))) ∧ ∃ v, e = .returned v ∧ w'.ownsRow w.heap.size 56 1 v (HE.rl (o.bind (HE.numbers n))).length (u16s (HE.rl (o.bind (HE.numbers n)))) := by
  have hls := rlist_t h n hn
  have hlt := h.lt
  unfold TGives at hls
  cases hr : o.bind (HE.text n) with
  | none =>
    have hnn : o.bind (HE.numbers n) = none := by
      cases o with
      | none => rfl
      | some t => simp only [Option.bind_some] at hr ⊢; unfold HE.numbers HE.some'; rw [hr]; rfl
    rw [hr] at hls
    rw [hnn]
    have HL := hid hls
    clear hls hr hnn h
    go_enter Try.func41, Try.ntmps41
    go_wp2_with fail
    refine HL.out.mono ?_
    rintro e w1 ⟨ho, rfl, hp1⟩
    obtain ⟨s, hg, hsl⟩ : TS w1 P none := hp1
    have c1 : w1.cell? ⟨P, 1, none⟩ = some (.int .i64 270) := cell_at hg 1
    have HO := hid ho
    have HG := hid hg
    clear ho hg
    have hz : (⟨(HE.rv none).toArray⟩ : ByteArray) = ⟨#[]⟩ := rfl
    rw [hz]
    go_wp2_with fail
    go_ret
    exact ⟨HO.out, ⟨s, HG.out, hsl⟩, _, rfl, World.ownsRow_nil _ _ _ _⟩
  | some sr =>
    obtain ⟨s, r⟩ := sr
    have hss := text_size s
    rw [hr] at hls
    have HL := hid hls
    have hnb : o.bind (HE.numbers n) = (if s = [] then none else some (s, r)).bind fun p => (HE.pairs p.1).map fun l => (l, p.2) := by
      cases o with
      | none => cases hr
      | some t => simp only [Option.bind_some] at hr ⊢; unfold HE.numbers HE.some'; rw [hr]; rfl
    have hsl : s.length ≤ 1000000 := by
      cases o with
      | none => cases hr
      | some t => simp only [Option.bind_some] at hr; exact Nat.le_trans (HE.text_some hr).2 h.2
    rw [hnb]
    clear hls hr hnb h
    by_cases hbad : s = [] ∨ s.length % 2 ≠ 0
    · have hnn : ((if s = [] then none else some (s, r)).bind fun p => (HE.pairs p.1).map fun l => (l, p.2)) = none := by
        by_cases hs : s = []
        · rw [if_pos hs]; rfl
        · rw [if_neg hs, Option.bind_some]
          show (HE.pairs s).map _ = none
          rw [HE.pairs_odd s (hbad.resolve_left hs)]; rfl
      rw [hnn]
      clear hnn
      have hcase : ((s.length : Int) == 0) = true ∨ (((s.length : Int) == 0) = false ∧ ((s.length : Int) % 2 != 0) = true) := by
        by_cases hs : s = []
        · left; rw [hs]; rfl
        · right
          have := List.length_pos_iff.2 hs
          have := hbad.resolve_left hs
          exact ⟨beq_eq_false_iff_ne.2 (by omega), by simp; omega⟩
      clear hbad
      rcases hcase with d1 | ⟨d1, d2⟩
      all_goals
        go_enter Try.func41, Try.ntmps41
        go_wp2_with fail
        refine HL.out.mono ?_
        rintro e w1 ⟨ho, rfl, hp1⟩
        obtain ⟨hg, hrl⟩ : TS w1 P (some r) := hp1
        have c1 : w1.cell? ⟨P, 1, none⟩ = some (.int .i64 0) := cell_at hg 1
        have f0 := free_at hg
        have HO := hid ho
        have HG := hid hg
        clear ho hg HL
        have hz : HE.rv (some (s, r)) = s := rfl
        rw [hz]
        clear hz
        obtain ⟨S, hS⟩ : ∃ S, (⟨s.toArray⟩ : ByteArray) = S := ⟨_, rfl⟩
        rw [hS] at hss ⊢
        clear hS
        go_wp2_with fail
        go_ret
        exact ⟨HO.out.setCell (p := ⟨P, 1, none⟩) (.inl rfl) _, ⟨r, hget_setCell HG.out 1 _, hrl⟩, _, rfl, World.ownsRow_nil _ _ _ _⟩
    · have hs : s ≠ [] := fun e => hbad (.inl e)
      have hev : s.length % 2 = 0 := Decidable.not_not.1 fun e => hbad (.inr e)
      obtain ⟨l, hpl, hll, hat⟩ := HE.pairs_even s hev
      have hpos := List.length_pos_iff.2 hs
      have hnn : ((if s = [] then none else some (s, r)).bind fun p => (HE.pairs p.1).map fun l => (l, p.2)) = some (l, r) := by
        rw [if_neg hs, Option.bind_some]
        show (HE.pairs s).map _ = _
        rw [hpl]; rfl
      rw [hnn]
      have d1 : ((s.length : Int) == 0) = false := beq_eq_false_iff_ne.2 (by omega)
      have d2 : ((s.length : Int) % 2 != 0) = false := by simp; omega
      have hix := fun j (hj : j < s.length) w => ridx_str s j hj w
      have HIX := hid hix
      have HAT := hid hat
      obtain ⟨i0, hi, hii⟩ := Option.map_eq_some_iff.1 info_u16
      obtain ⟨hz0, hz1, hz2⟩ : i0.zero = some (.int .u16 0) ∧ i0.size = 1 ∧ i0.bytes = 2 := by simpa using hii
      have HLL := hid hll
      clear hii hnn hbad hs hev hpl hix hat hll
      go_enter Try.func41, Try.ntmps41
      go_wp2_with fail
      refine HL.out.mono ?_
      rintro e w1 ⟨ho, rfl, hp1⟩
      have HO := hid ho
      have HP := hid (show TS w1 P (some r) from hp1)
      have hsz := ho.size
      clear ho hp1 HL
      have hz : HE.rv (some (s, r)) = s := rfl
      rw [hz]
      clear hz
      obtain ⟨S, hS⟩ : ∃ S, (⟨s.toArray⟩ : ByteArray) = S := ⟨_, rfl⟩
      rw [hS] at hss HIX ⊢
      clear hS
      go_wp2_with fail
      go_loopw [6, 7] (fun v i wr => ∃ k : Nat, k ≤ l.length ∧ i = .int .i64 ((2 * k : Nat) : Int) ∧ wr.ownsRow w1.heap.size 56 1 v k (u16s (l.take k)) ∧ Below w1.heap.size w1 wr) (fun _ i _ => (s.length - intOf i).toNat)
      case atStart => exact ⟨0, Nat.zero_le _, rfl, World.ownsRow_nil _ _ _ _, Below.refl _ _⟩
      case round =>
        obtain ⟨k, hk, rfl, hown, hb⟩ := hrel
        have HB := hid hb
        have HOW := hid hown
        obtain ⟨a, cap, hv⟩ := owns_sl hown
        subst hv
        clear hown hb
        obtain ⟨j, hj⟩ : ∃ j, 2 * k = j := ⟨_, rfl⟩
        rw [hj]
        by_cases hkl : k < l.length
        · have hj2 : j + 1 < s.length := by have := HLL.out; omega
          have hkb : k ≤ 1000000 := by have := HLL.out; omega
          have dk : decide ((j : Int) < (s.length : Int)) = true := decide_eq_true (by omega)
          have x1 := fun w => HIX.out j (by omega) w
          have x2 := fun w => HIX.out (j + 1) (by omega) w
          have hlk := HAT.out k hkl
          rw [hj] at hlk
          have htk : l.take (k + 1) = l.take k ++ [(s.getD j 0).toNat * 256 + (s.getD (j + 1) 0).toNat] := by rw [List.take_add_one, hlk]; rfl
          have hc1 := (s.getD j 0).toNat_lt
          have hc2 := (s.getD (j + 1) 0).toNat_lt
          have e1 : ((j + 1 : Nat) : Int) = (j : Int) + 1 := rfl
          rw [e1] at x2
          clear e1
          generalize (s.getD j 0).toNat = b1 at *
          generalize (s.getD (j + 1) 0).toNat = b2 at *
          have HTK := hid htk
          have HJ := hid hj
          have hi0 : 0 ≤ (j : Int) := by omega
          have hi1 : (j : Int) < (s.length : Int) := by omega
          have hi2 : 0 ≤ (j : Int) + 1 := by omega
          have hi3 : (j : Int) + 1 < (s.length : Int) := by omega
          have hm : (b1 : Int) * 256 % 65536 = (b1 : Int) * 256 := by omega
          have HOR := hid (or_low16 b1 b2 hc1 hc2)
          obtain ⟨B, hB⟩ : ∃ B, bits .or .u16 ((b1 : Int) * 256) (b2 : Int) = B := ⟨_, rfl⟩
          rw [hB] at HOR
          have HOR2 := hid hB
          have hml : k + 1 ≤ maxLen := by unfold maxLen; omega
          clear htk hj hlk HIX HAT d1 d2
          go_wp2_with fail
          refine wp_region_gho_tail 13 [12] (fun _ u x => ∃ b, u = .slice (some ⟨b, 0, none⟩) 1 1 ∧ hget x b = some (.cells #[.int .u16 B] 56 (0, 0))) (by kernel_rfl) (by kernel_rfl) (by kernel_rfl) (by kernel_rfl) (fun _ u w w' ⟨b, h1, h2⟩ hb => ⟨b, h1, keepB hb h2⟩) ?_
          simp only [List.take_succ_cons, List.take_zero, List.drop_succ_cons, List.drop_zero]
          repeat (first | (refine wpGho_plain (by kernel_rfl) (by decide) (by rfl) (by rfl) (fun K hK => ?_); go_simp; refine hK _ ?_; clear hK K; try go_ints))
          refine wpGho_make (by kernel_rfl) (by decide) (by rfl) (by rfl) (by rfl) (fun K hK => ?_)
          go_simp
          refine ⟨fun x => ⟨below_new _, _, rfl, by rw [← HOR2.out]; exact alloc_at _ _⟩, hK _ ?_⟩
          clear hK K
          try simp only [Act.put, List.setIfInBounds_toArray, List.set_cons_zero, List.set_cons_succ]
          refine wpGho_nil ?_
          intro gg wM hwM hR
          obtain ⟨⟨w8, hM⟩, e8⟩ := hwM
          change wM = w8 at e8
          subst e8
          obtain ⟨bm, hbm, hgm⟩ := hR 12 (by decide)
          rw [show ∀ a, over _ [12] gg a = Act.put a (some 46) (gg 12) from fun _ => rfl, hbm]
          simp only [Act.put, List.setIfInBounds_toArray, List.set_cons_zero, List.set_cons_succ]
          have HOd := hid (show wM.ownsRow w1.heap.size 56 1 (.slice a k cap) k (u16s (l.take k)) from owns_out HOW.out (Out.of_below hM) (fun _ _ e => e))
          have HBd := hid (below_to HB.out hM)
          have HGM := hid hgm
          have hbl := hget_lt hgm
          clear hM HOW HB hgm hR hbm
          go_wp2_with (at_builtin; refine wpList_append_own _ rfl _ _ 35 rfl w1.heap.size 56 i0 (.int .u16 0) 1 2 Try.underlying35 hi hz0 hz1 hz2 rfl (by decide) _ _ _ rfl HOd.out ⟨bm, 0, none⟩ 1 1 [.int .u16 B] rfl rfl ?c1 ?c2 hml ?c4 ?c5 ?_)
          case c1 =>
            intro j u hu
            match j, hu with
            | 0, hu => injection hu with hu; subst hu; exact cell_at HGM.out 0
          case c2 => intro u hu; simp only [List.mem_cons, List.not_mem_nil, or_false] at hu; subst hu; rfl
          case c4 => omega
          case c5 => exact HBd.out.size
          intro v' w2 hown' hgrow _
          have hb2 := hid (HBd.out.grown hgrow HBd.out.size (fun g hg => block_le HOd.out hg))
          have HO2 := hid hown'
          clear hown' hgrow hml
          go_wp2_with fail
          exact ⟨⟨k + 1, by omega, by have := HJ.out; go_num, by rw [HTK.out, u16s_append]; have h1 := HO2.out; rw [HOR.out] at h1; exact h1, hb2.out⟩, by simp only [intOf]; omega⟩
        · have dk : decide ((j : Int) < (s.length : Int)) = false := decide_eq_false (by have := HLL.out; omega)
          have hjn : s.length ≤ j := by have := HLL.out; omega
          obtain rfl : k = l.length := by have := HLL.out; omega
          clear hj
          rw [List.take_length] at HOW
          go_wp2_with fail
          go_ret
          exact ⟨HO.out.then (Out.of_below HB.out), HP.out.below HB.out, _, rfl, owns_base HOW.out hsz⟩
end
end Go.Proofs.Ytliblhfabnjpkaa

namespace Go.Proofs.Ytliblhfabnjpkaa
open Go Go.RowKit
namespace HE
def tsl (o : Option BS) : Nat := match o with | some r => r.length + 1 | none => 0
/-- What was read of a share. -/
abbrev shq (r : BS) : Option (BS × BS) := (rs ((some r).bind (num 2))).bind (text 2)
theorem share_none {r : BS} (h : share r = none) : someO (rs (shq r)) (rv (shq r)) = none := by
  unfold share at h
  simp only [shq, Option.bind_some]
  cases hn : num 2 r with
  | none => rfl
  | some p =>
    obtain ⟨g, r1⟩ := p
    rw [hn] at h
    simp only [Option.bind_some, Option.map_eq_none_iff] at h
    show someO (rs ((some r1).bind (text 2))) (rv ((some r1).bind (text 2))) = none
    simp only [Option.bind_some]
    unfold some' at h
    cases ht : text 2 r1 with
    | none => rfl
    | some q =>
      obtain ⟨k, r2⟩ := q
      rw [ht] at h
      simp only [Option.bind_some] at h
      by_cases hk : k = []
      · subst hk; rfl
      · rw [if_neg hk] at h; cases h
theorem share_some {r r' : BS} {x : Nat × BS} (h : share r = some (x, r')) : rn ((some r).bind (num 2)) = x.1 ∧ rv (shq r) = x.2 ∧ someO (rs (shq r)) (rv (shq r)) = some r' := by
  unfold share at h
  simp only [shq, Option.bind_some]
  cases hn : num 2 r with
  | none => rw [hn] at h; cases h
  | some p =>
    obtain ⟨g, r1⟩ := p
    rw [hn] at h
    simp only [Option.bind_some] at h
    show g = x.1 ∧ rv ((some r1).bind (text 2)) = x.2 ∧ someO (rs ((some r1).bind (text 2))) (rv ((some r1).bind (text 2))) = some r'
    simp only [Option.bind_some]
    unfold some' at h
    cases ht : text 2 r1 with
    | none => rw [ht] at h; cases h
    | some q =>
      obtain ⟨k, r2⟩ := q
      rw [ht] at h
      simp only [Option.bind_some] at h
      by_cases hk : k = []
      · rw [if_pos hk] at h; cases h
      · rw [if_neg hk] at h
        injection h with h
        injection h with h1 h2
        have h3 : r2 = r' := h2
        refine ⟨by rw [← h1], by rw [← h1]; rfl, ?_⟩
        rw [← h3]
        exact if_neg hk
/-- How far the shares of s are read: those in dn; whether a group came twice; what is left. -/
def ShI (s : BS) (dn : List (Nat × BS)) (tw : Bool) (o : Option BS) : Prop :=
  match o with
  | some r => shareL s = (shareL r).map (fun l => dn ++ l) ∧ tw = !decide ((dn.map Prod.fst).Nodup) ∧ 2 * dn.length + r.length ≤ s.length
  | none => shareL s = none
theorem ShI.step {s r : BS} {dn : List (Nat × BS)} {tw : Bool} (h : ShI s dn tw (some r)) (hne : r ≠ []) :
    ShI s (dn ++ [(rn ((some r).bind (num 2)), rv (shq r))]) (tw || dn.any fun x => x.1 == rn ((some r).bind (num 2))) (someO (rs (shq r)) (rv (shq r))) ∧ tsl (someO (rs (shq r)) (rv (shq r))) ≤ r.length := by
  obtain ⟨h1, h2, h3⟩ := h
  cases hs : share r with
  | none =>
    rw [share_none hs]
    refine ⟨?_, Nat.zero_le _⟩
    show shareL s = none
    rw [h1, shareL_none hne hs]; rfl
  | some p =>
    obtain ⟨x, r'⟩ := p
    obtain ⟨e1, e2, e3⟩ := share_some hs
    have hl := (share_len hs).1
    rw [e3, e1, e2]
    refine ⟨⟨?_, ?_, ?_⟩, ?_⟩
    · rw [h1, shareL_step hne hs]
      cases shareL r' with
      | none => rfl
      | some l => simp
    · rw [h2, List.map_append, List.map_cons, List.map_nil]
      have hx : (dn.any fun y => y.1 == x.1) = decide (x.1 ∈ dn.map Prod.fst) := by
        rw [Bool.eq_iff_iff]; simp
      rw [hx]
      have hn : ((dn.map Prod.fst ++ [x.1]).Nodup) ↔ ((dn.map Prod.fst).Nodup ∧ x.1 ∉ dn.map Prod.fst) := by
        rw [List.nodup_append]
        constructor
        · rintro ⟨a, _, b⟩
          exact ⟨a, fun hm => b _ hm _ (List.mem_singleton.2 rfl) rfl⟩
        · rintro ⟨a, b⟩
          refine ⟨a, by simp, fun y hy z hz e => ?_⟩
          rw [List.mem_singleton] at hz
          subst hz; subst e
          exact b hy
      have hd : decide ((dn.map Prod.fst ++ [x.1]).Nodup) = (decide ((dn.map Prod.fst).Nodup) && !decide (x.1 ∈ dn.map Prod.fst)) := by
        rw [Bool.eq_iff_iff, decide_eq_true_iff, hn]; simp
      rw [hd]
      cases decide ((dn.map Prod.fst).Nodup) <;> cases decide (x.1 ∈ dn.map Prod.fst) <;> rfl
    · rw [List.length_append, List.length_singleton]; omega
    · show r'.length + 1 ≤ r.length
      omega
theorem sharesX_bad {d : BS} (h : endO (rs ((some d).bind (text 2))) = none) : sharesX d = .error 270 := by
  unfold sharesX
  rw [Option.bind_some] at h
  cases ht : text 2 d with
  | none => rfl
  | some p =>
    obtain ⟨s, r⟩ := p
    rw [ht] at h
    simp only []
    by_cases hr : r = []
    · subst hr; cases h
    · rw [if_neg hr]
theorem sharesX_good {d x : BS} (h : endO (rs ((some d).bind (text 2))) = some x) : sharesX d = match shareL (rv ((some d).bind (text 2))) with | none => .error 270 | some l => if (l.map Prod.fst).Nodup then .ok l else .error 271 := by
  unfold sharesX
  rw [Option.bind_some] at h ⊢
  cases ht : text 2 d with
  | none => rw [ht] at h; cases h
  | some p =>
    obtain ⟨s, r⟩ := p
    rw [ht] at h
    simp only []
    by_cases hr : r = []
    · rw [if_pos hr]; rfl
    · have : endO (rs (some (s, r))) = none := if_neg hr
      rw [this] at h; cases h
theorem rv_text_len (n : Nat) (o : Option BS) (m : Nat) (h : ∀ t, o = some t → t.length ≤ m) : (rv (o.bind (text n))).length ≤ m := by
  cases o with
  | none => exact Nat.zero_le _
  | some t =>
    rw [Option.bind_some]
    cases ht : text n t with
    | none => exact Nat.zero_le _
    | some p => obtain ⟨a, r⟩ := p; exact Nat.le_trans (text_some ht).2 (h t rfl)
end HE
/-- What comes of the shares. -/
abbrev AfterSX (B : Nat) (r : Except Int (List (Nat × HE.BS))) (e : Ending) (w' : World) : Prop :=
  match r with
  | .ok l => ∃ v, e = .returned (.tuple #[v, .int .i64 0]) ∧ w'.ownsRow B 86 2 v l.length (shareVs l)
  | .error c => e = .returned (.tuple #[.slice none 0 0, .int .i64 c])
section
variable {w : World}
set_option maxRecDepth 100000 in
set_option maxHeartbeats 8000000 in
theorem rshares_any (d : HE.BS) (hd : d.length ≤ 1000000) : Calls Try.prog 74 #[.string ⟨d.toArray⟩] w fun e w' => Below w.heap.size w w' ∧ AfterSX w.heap.size (HE.sharesX d) e w' := by
  obtain ⟨i0, hi, hii⟩ := Option.map_eq_some_iff.1 info_Share
  obtain ⟨hz0, hz1, hz2⟩ : i0.zero = some (.agg #[.int .u16 0, .string ⟨#[]⟩]) ∧ i0.size = 2 ∧ i0.bytes = 24 := by simpa using hii
  clear hii
  have hp0 : TS (w.alloc (.cells #[.string ⟨d.toArray⟩, .int .i64 0] 83)) w.heap.size (some d) := ⟨alloc_at _ _, hd⟩
  have hb0 := below_new (w := w) (.cells #[.string ⟨d.toArray⟩, .int .i64 0] 83)
  have hls := rlist_t hp0 2 (by omega)
  unfold TGives at hls
  have hsl := HE.rv_text_len 2 (some d) 1000000 (fun t e => by injection e with e; rw [← e]; exact hd)
  have hbad := HE.sharesX_bad (d := d)
  have hgood := fun x => HE.sharesX_good (d := d) (x := x)
  generalize HE.rv ((some d).bind (HE.text 2)) = s at *
  generalize HE.rs ((some d).bind (HE.text 2)) = o1 at *
  have HBAD := hid hbad
  have HGOOD := hid hgood
  have HLS := hid hls
  have HB0 := hid hb0
  clear hbad hgood hls hb0 hp0
  go_enter Try.func74, Try.ntmps74
  go_wp2_with fail
  refine HLS.out.mono ?_
  rintro e w1 ⟨ho, rfl, hp1⟩
  have hb1 : Below w.heap.size w w1 := HB0.out.trans (ho.below (fun k e => by rw [e]; exact Nat.le_refl _) HB0.out.size)
  have hsz1 : w.heap.size < w1.heap.size := hp1.lt
  have hq := below_new (w := w1) (.cells #[.string ⟨s.toArray⟩, .int .i64 0] 83)
  have hp2 := hp1.below hq
  have hq2 : TS (w1.alloc (.cells #[.string ⟨s.toArray⟩, .int .i64 0] 83)) w1.heap.size (some s) := ⟨alloc_at _ _, hsl⟩
  have hen := rends_t hp2
  have HEN := hid hen
  have HB2 := hid (below_to hb1 hq)
  have HQ2 := hid hq2
  have hszq : w1.heap.size < (w1.alloc (.cells #[.string ⟨s.toArray⟩, .int .i64 0] 83)).heap.size := hq2.lt
  clear ho hp1 hb1 hq hp2 hq2 hen HLS HB0
  go_wp2_with fail
  refine HEN.out.mono ?_
  rintro e w3 ⟨ho, rfl, hp3⟩
  have h0 : w3.ownsRow (w1.heap.size + 1) 86 2 (.slice none 0 0) ([] : List (Nat × HE.BS)).length (shareVs []) := World.ownsRow_nil _ _ _ _
  have hq3 := HQ2.out.out ho (by omega)
  have HR0 := hid (And.intro hp3 (And.intro hq3 (And.intro (HB2.out.trans (ho.below (fun k e => by rw [e]; exact Nat.le_refl _) HB2.out.size)) (show HE.ShI s [] false (some s) from ⟨by cases HE.shareL s <;> rfl, by simp, by simp⟩))))
  have hszq3 : w1.heap.size < w3.heap.size := hq3.lt
  generalize HE.endO o1 = oT at *
  obtain ⟨Q, hQ⟩ : ∃ Q, w1.heap.size = Q := ⟨_, rfl⟩
  obtain ⟨P, hP⟩ : ∃ P, w.heap.size = P := ⟨_, rfl⟩
  rw [hQ] at HR0 hsz1 h0 hszq3 ⊢
  rw [hP] at HR0 hsz1 ⊢
  have HPE := hid hP
  have H0 := hid h0
  clear ho hp3 hq3 HEN HQ2 HB2 hszq h0 hQ hP
  go_wp2_with fail
  go_loopg [6, 7] (s.length + 2) (fun g v tw wr => ∃ (dn : List (Nat × HE.BS)) (b : Bool) (oI : Option HE.BS), tw = .bool b ∧ wr.ownsRow (Q + 1) 86 2 v dn.length (shareVs dn) ∧ TS wr P oT ∧ TS wr Q oI ∧ HE.ShI s dn b oI ∧ Below w.heap.size w wr ∧ HE.tsl oI < g)
  case atStart => exact ⟨[], false, some s, rfl, H0.out, HR0.out.1, HR0.out.2.1, HR0.out.2.2.2, by have := HR0.out.2.2.1; rw [← HPE.out] at this; exact this, Nat.lt_succ_self _⟩
  case round =>
    obtain ⟨dn, b, oI, rfl, hown, hp, hq, hI, hb, hm⟩ := hrel
    have HO := hid hown
    have HB := hid hb
    have HI := hid hI
    have HP := hid hp
    have HQ := hid hq
    obtain ⟨a, cap, hv⟩ := owns_sl hown
    subst hv
    clear hown hb hI HR0 H0
    cases oT with
    | none =>
      obtain ⟨sP, hgP, -⟩ := hp
      have cP1 : wr.cell? ⟨P, 1, none⟩ = some (.int .i64 270) := cell_at hgP 1
      have lc := later_cell cP1
      have HX := hid (HBAD.out rfl)
      clear hgP hq HGOOD HBAD
      go_wp2_with fail
      refine wp_region_later (by kernel_rfl) (by kernel_rfl) ?_
      repeat ((go_big_quiet_step (fail)))
      refine wpQuiet_nil ?_
      intro wL hwL
      obtain ⟨⟨w8, hL⟩, e8⟩ := hwL
      change wL = w8 at e8
      subst e8
      go_wp2_with fail
      go_ret2
      rw [HX.out]
      exact ⟨below_to HB.out hL, rfl⟩
    | some xT =>
      have HX := hid (HGOOD.out xT rfl)
      obtain ⟨hgP, -⟩ := hp
      have cP1 : wr.cell? ⟨P, 1, none⟩ = some (.int .i64 0) := cell_at hgP 1
      clear hgP HBAD HGOOD
      cases oI with
      | none =>
        obtain ⟨sQ, hgQ, -⟩ := hq
        have cQ1 : wr.cell? ⟨Q, 1, none⟩ = some (.int .i64 270) := cell_at hgQ 1
        have lc := later_cell cQ1
        have HX2 := hid (show HE.sharesX d = .error 270 by rw [HX.out, show HE.shareL s = none from HI.out])
        clear hgQ HX HI
        go_wp2_with fail
        refine wp_region_later (by kernel_rfl) (by kernel_rfl) ?_
        repeat ((go_big_quiet_step (fail)))
        refine wpQuiet_nil ?_
        intro wL hwL
        obtain ⟨⟨w8, hL⟩, e8⟩ := hwL
        change wL = w8 at e8
        subst e8
        go_wp2_with fail
        go_ret2
        rw [HX2.out]
        exact ⟨below_to HB.out hL, rfl⟩
      | some r =>
        obtain ⟨hgQ, hrl⟩ := hq
        have cQ0 : wr.cell? ⟨Q, 0, none⟩ = some (.string ⟨r.toArray⟩) := cell_at hgQ 0
        have cQ1 : wr.cell? ⟨Q, 1, none⟩ = some (.int .i64 0) := cell_at hgQ 1
        have hemp := str_empty r
        obtain ⟨R, hR⟩ : ∃ R, (⟨r.toArray⟩ : ByteArray) = R := ⟨_, rfl⟩
        rw [hR] at hemp cQ0
        clear hgQ hR
        by_cases hr : r = []
        · rw [decide_eq_true hr] at hemp
          subst hr
          obtain ⟨i1, i2, i3⟩ := HI.out
          have hL : HE.shareL s = some dn := by rw [i1]; show some (dn ++ []) = _; rw [List.append_nil]
          have HX2 := hid (show HE.sharesX d = if (dn.map Prod.fst).Nodup then .ok dn else .error 271 by rw [HX.out, hL])
          have HI2 := hid i2
          clear HX HI hL i1 i2 i3 HP HQ
          cases b with
          | true =>
            go_wp2_with fail
            go_ret2
            have hn : ¬ (dn.map Prod.fst).Nodup := by simpa using HI2.out
            rw [HX2.out, if_neg hn]
            exact ⟨HB.out, rfl⟩
          | false =>
            go_wp2_with fail
            go_ret2
            have hn : (dn.map Prod.fst).Nodup := by simpa using HI2.out
            rw [HX2.out, if_pos hn]
            exact ⟨HB.out, _, rfl, owns_base HO.out (by have := HPE.out; omega)⟩
        · rw [decide_eq_false hr] at hemp
          obtain ⟨hst, hts⟩ := HE.ShI.step HI.out hr
          have hdn : 2 * dn.length + r.length ≤ s.length := HI.out.2.2
          have hnm := rnum_t HQ.out 2 (by omega)
          have hgl := HE.rn_lt 2 (some r) (by omega)
          have hm1 : HE.tsl (some r) = r.length + 1 := rfl
          unfold TGives at hnm
          generalize hGe : HE.rn ((some r).bind (HE.num 2)) = G at *
          have HN := hid hnm
          have HST := hid hst
          have HTS := hid hts
          have hg2 : (G : Int) % 65536 = (G : Int) := by omega
          have hm2 : r.length + 1 < gk := by omega
          have hdl : dn.length + 1 ≤ maxLen := by unfold maxLen; omega
          have hdb : dn.length ≤ 1000000 := by omega
          clear hnm hst hts hGe hr HI hm1 hm hdn HX
          go_wp2_with fail
          refine HN.out.mono ?_
          rintro e w5 ⟨ho5, rfl, hq5⟩
          have HP5 := hid (HP.out.out ho5 (by omega))
          have HO5 := hid (owns_out HO.out ho5 (fun k hk e => by omega))
          have HB5 := hid (HB.out.trans (ho5.below (fun k e => by have := HPE.out; omega) HB.out.size))
          have hl5 := rlist_t hq5 2 (by omega)
          unfold TGives at hl5
          have HL5 := hid hl5
          clear ho5 hq5 hl5 HN HP HO HB HQ cP1 cQ0 cQ1 hemp
          go_wp2_with fail
          refine HL5.out.mono ?_
          rintro e w6 ⟨ho6, rfl, hq6⟩
          have hs6 := rsome_t hq6 (HE.rv (HE.shq r))
          unfold TGives at hs6
          have HP6 := hid (HP5.out.out ho6 (by omega))
          have HO6 := hid (owns_out HO5.out ho6 (fun k hk e => by omega))
          have HB6 := hid (HB5.out.trans (ho6.below (fun k e => by have := HPE.out; omega) HB5.out.size))
          have HS6 := hid hs6
          clear ho6 hq6 hs6 HL5 HP5 HO5 HB5
          go_wp2_with fail
          refine HS6.out.mono ?_
          rintro e w7 ⟨ho7, rfl, hq7⟩
          have HP7 := hid (HP6.out.out ho7 (by omega))
          have HO7 := hid (owns_out HO6.out ho7 (fun k hk e => by omega))
          have HB7 := hid (HB6.out.trans (ho7.below (fun k e => by have := HPE.out; omega) HB6.out.size))
          have HQ7 := hid (show TS w7 Q (HE.someO (HE.rs (HE.shq r)) (HE.rv (HE.shq r))) from hq7)
          have HSA := hid (SharesAt.of HO7.out)
          clear ho7 hq7 HS6 HP6 HO6 HB6
          generalize HE.someO (HE.rs (HE.shq r)) (HE.rv (HE.shq r)) = oN at *
          generalize HE.rv (HE.shq r) = K at *
          go_wp2_with fail
          go_loopw [7, 10] (fun tw i wr => ∃ k : Nat, k ≤ dn.length ∧ i = .int .i64 (k : Int) ∧ tw = .bool (b || (dn.take k).any fun x => x.1 == G) ∧ wr = w7) (fun _ i _ => (dn.length - intOf i).toNat)
          case atStart => exact ⟨0, Nat.zero_le _, rfl, by simp, rfl⟩
          case round =>
            obtain ⟨k, hk, rfl, rfl, rfl⟩ := hrel
            by_cases hkl : k < dn.length
            · have dk : decide ((k : Int) < (dn.length : Int)) = true := decide_eq_true (by omega)
              have hx := List.getElem?_eq_getElem hkl
              obtain ⟨a', c', hv', hat⟩ := HSA.out
              injection hv' with e1 _ e3
              subst e1 e3
              obtain ⟨g, ha, cg, -⟩ := hat k _ hx
              subst ha
              have htk : (dn.take (k + 1)).any (fun x => x.1 == G) = ((dn.take k).any (fun x => x.1 == G) || (dn[k].1 == G)) := by rw [List.take_succ_eq_append_getElem hkl, List.any_append]; simp
              generalize dn[k].1 = y at *
              generalize (dn.take k).any (fun x => x.1 == G) = bk at *
              have hyG : ((y : Int) == (G : Int)) = (y == G) := by rw [Bool.eq_iff_iff]; simp; omega
              obtain ⟨yg, hyg⟩ : ∃ yg, (y == G) = yg := ⟨_, rfl⟩
              rw [hyg] at hyG
              rw [hyg] at htk
              have HTK := hid htk
              clear hyg
              have hi0 : 0 ≤ (k : Int) := by omega
              have hi1 : (k : Int) < (dn.length : Int) := by omega
              clear hx hat htk
              cases hbb : (b || bk) with
              | true =>
                have HBB := hid hbb
                clear hbb
                go_wp2_with fail
                exact ⟨⟨k + 1, by omega, by go_num, by rw [HTK.out, ← Bool.or_assoc, HBB.out]; rfl, trivial⟩, by simp only [intOf]; omega⟩
              | false =>
                have HBB := hid hbb
                clear hbb
                go_wp2_with fail
                exact ⟨⟨k + 1, by omega, by go_num, by rw [HTK.out, ← Bool.or_assoc, HBB.out]; rfl, trivial⟩, by simp only [intOf]; omega⟩
            · have dk : decide ((k : Int) < (dn.length : Int)) = false := decide_eq_false (by omega)
              have hkn : dn.length ≤ k := by omega
              have HTA := hid (show (dn.take k).any (fun x => x.1 == G) = dn.any (fun x => x.1 == G) by rw [List.take_of_length_le hkn])
              rw [HTA.out]
              generalize (b || dn.any fun x => x.1 == G) = b2 at *
              clear HTA HSA
              go_wp2_with (at_builtin; refine wpList_append_own _ rfl _ _ 36 rfl (Q + 1) 86 i0 (.agg #[.int .u16 0, .string ⟨#[]⟩]) 2 24 Try.underlying36 hi hz0 hz1 hz2 rfl (by decide) _ _ _ rfl (HO7.out.alloc _) ⟨wr.heap.size, 0, none⟩ 1 1 [.int .u16 (G : Int), .string ⟨K.toArray⟩] rfl rfl ?c1 ?c2 hdl ?c4 ?c5 ?_)
              case c1 => exact cell_two_new _ _ _ _
              case c2 => intro u hu; simp only [List.mem_cons, List.not_mem_nil, or_false] at hu; rcases hu with rfl | rfl <;> rfl
              case c4 => omega
              case c5 => have := HQ7.out.lt; simp; omega
              intro v' w8 hown' hgrow _
              have hqlt := HQ7.out.lt
              have hb2 := hid ((below_alloc HB7.out _).grown hgrow (by have := HB7.out.size; simp; omega) (fun g hg => by have := block_le HO7.out hg; have := HPE.out; omega))
              have ho8 : Out (fun j => Q + 1 ≤ j) wr w8 := (Out.of_below (below_new _)).trans (Out.of_grown hgrow (fun j e => block_le HO7.out e)) (fun _ _ e => e)
              have HP8 := hid (HP7.out.out ho8 (by omega))
              have HQ8 := hid (HQ7.out.out ho8 (by omega))
              have HO8 := hid hown'
              clear hown' hgrow hdl ho8 HP7 HQ7 HO7 HB7
              go_wp2_with fail
              go_roundg (gk - 1)
              case measure => omega
              case rel => exact ⟨dn ++ [(G, K)], b2, oN, rfl, by rw [List.length_append, shareVs_append]; exact HO8.out, HP8.out, HQ8.out, HST.out, hb2.out, by have := HTS.out; omega⟩
end
end Go.Proofs.Ytliblhfabnjpkaa
