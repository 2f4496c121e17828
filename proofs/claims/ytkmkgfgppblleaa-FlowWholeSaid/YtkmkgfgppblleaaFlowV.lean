/- Plain: a text that comes in pieces is read as it was. -/
import Derived.Test.YtkmkgfgppblleaaFlowQ
namespace Go.Proofs.Ytkmkgfgppblleaa
namespace FL

/-- What came, behind a piece. -/
def mark (came : List Bool) (a n : Nat) : List Bool := (List.range came.length).map fun j => came.getD j false || (decide (a ≤ j) && decide (j < a + n))
theorem mark_len (came : List Bool) (a n : Nat) : (mark came a n).length = came.length := by simp [mark]
theorem mark_get (came : List Bool) (a n j : Nat) (hj : j < came.length) : (mark came a n).getD j false = (came.getD j false || (decide (a ≤ j) && decide (j < a + n))) := by
  unfold mark
  rw [List.getD_eq_getElem?_getD, List.getElem?_map, List.getElem?_range hj]; rfl
theorem mark_zero (came : List Bool) (a : Nat) : mark came a 0 = came := by
  apply List.ext_getElem
  · simp [mark]
  · intro j h1 h2
    have h := mark_get came a 0 j h2
    rw [List.getD_eq_getElem?_getD, List.getElem?_eq_getElem h1, List.getD_eq_getElem?_getD, List.getElem?_eq_getElem h2] at h
    have h3 : (decide (a ≤ j) && decide (j < a + 0)) = false := by
      rw [Bool.and_eq_false_iff, decide_eq_false_iff_not, decide_eq_false_iff_not]; omega
    rw [h3, Bool.or_false] at h
    exact h
theorem mark_succ (came : List Bool) (a n : Nat) : (mark came a n).set (a + n) true = mark came a (n + 1) := by
  apply List.ext_getElem
  · simp [mark]
  · intro j h1 h2
    have hj : j < came.length := by simpa [mark] using h2
    have h := mark_get came a (n + 1) j hj
    have h' := mark_get came a n j hj
    rw [List.getD_eq_getElem?_getD, List.getElem?_eq_getElem h2] at h
    rw [List.getD_eq_getElem?_getD, List.getElem?_eq_getElem (by rw [mark_len]; exact hj)] at h'
    rw [List.getElem_set]
    simp only [Option.getD_some] at h h'
    rw [h]
    split
    · rename_i e
      subst e
      have : (decide (a ≤ a + n) && decide (a + n < a + (n + 1))) = true := by simp
      rw [this, Bool.or_true]
    · rename_i e
      rw [h']
      congr 2
      exact decide_eq_decide.2 (by omega)

/-- Where a text stands that came in pieces. -/
structure Wh (T : List UInt8) (base : Nat) (s : FS) (told : List UInt8) (came : List Bool) (p : Nat) : Prop where
  hp : p ≤ T.length
  len : came.length = T.length + 1
  txt : told ++ s.ready = T.take p
  size : s.size = 1024
  before : ∀ j, j < p → came.getD j false = true
  live : s.ended = false → s.next = (base + p) % 4294967296 ∧ (∀ i, s.held.getD i none = if p + i < T.length ∧ came.getD (p + i) false = true then some (T.getD (p + i) 0) else none) ∧
    s.hasEnd = came.getD T.length false ∧ (s.hasEnd = true → s.endo = T.length - p) ∧ (p < T.length → came.getD p false = false) ∧ ¬ (p = T.length ∧ came.getD T.length false = true)
  done : s.ended = true → p = T.length ∧ came.getD T.length false = true ∧ s.next = (base + T.length + 1) % 4294967296

theorem wh_new (T : List UInt8) (base : Nat) (hb : base < 4294967296) : Wh T base (new base 1024) [] (List.replicate (T.length + 1) false) 0 := by
  have h0 : ∀ j, (List.replicate (T.length + 1) false).getD j false = false := fun j => by
    rw [List.getD_eq_getElem?_getD, List.getElem?_replicate]; split <;> rfl
  refine ⟨Nat.zero_le _, List.length_replicate, by show [] ++ [] = _; rfl, rfl, fun j hj => absurd hj (Nat.not_lt_zero _), fun _ => ⟨?_, fun i => ?_, ?_, (fun h => by cases h), fun _ => h0 0, (fun h => by rw [h0] at h; cases h.2)⟩, (fun h => by cases h)⟩
  · show base = (base + 0) % 4294967296; omega
  · rw [h0, if_neg (by simp)]
    show (List.replicate (1024 + 1) (none : Option UInt8)).getD i none = none
    rw [List.getD_eq_getElem?_getD, List.getElem?_replicate]; split <;> rfl
  · rw [h0]; rfl
theorem wh_read {T : List UInt8} {base : Nat} {s : FS} {told : List UInt8} {came : List Bool} {p : Nat} (h : Wh T base s told came p) (m : Int) : Wh T base (read s m) (told ++ s.ready.take (readN s m)) came p :=
  ⟨h.hp, h.len, by rw [List.append_assoc]; show told ++ (s.ready.take _ ++ s.ready.drop _) = _; rw [List.take_append_drop]; exact h.txt, h.size, h.before, h.live, h.done⟩

theorem bytes_text {l : List (Option UInt8)} {T : List UInt8} {p : Nat} : ∀ q, p + q ≤ T.length → (∀ i, i < q → l.getD i none = some (T.getD (p + i) 0)) → bytes (l.take q) = (T.drop p).take q := by
  intro q
  induction q with
  | zero => intro _ _; simp [bytes]
  | succ q ih =>
    intro hl h
    have h1 := h q (by omega)
    have hq : q < l.length := getD_some (by rw [h1]; rfl)
    rw [List.getD_eq_getElem?_getD, List.getElem?_eq_getElem hq] at h1
    have hd : q < (T.drop p).length := by rw [List.length_drop]; omega
    rw [List.take_succ_eq_append_getElem hq, List.take_succ_eq_append_getElem hd]
    unfold bytes
    rw [List.filterMap_append]
    have ih' := ih (by omega) (fun i hi => h i (by omega))
    unfold bytes at ih'
    rw [ih']
    congr 1
    have h2 : l[q] = some (T.getD (p + q) 0) := h1
    simp only [List.filterMap_cons, List.filterMap_nil, id, h2]
    rw [List.getElem_drop, List.getD_eq_getElem?_getD, List.getElem?_eq_getElem (by omega)]; rfl

theorem layK_text {T : List UInt8} {base : Nat} {s : FS} {told : List UInt8} {came : List Bool} {p : Nat} (h : Wh T base s told came p) (hs : Inv s) (hne : s.ended = false) (hT : T.length ≤ 1000) (a n : Nat) (han : a + n ≤ T.length) :
    ∀ k, k ≤ n → ∀ i, (layK s ((base + a) % 4294967296) ((T.drop a).take n) k).getD i none = if p + i < T.length ∧ (came.getD (p + i) false = true ∨ (a ≤ p + i ∧ p + i < a + k)) then some (T.getD (p + i) 0) else none := by
  obtain ⟨hnx, hheld, hend, hendo, _, _⟩ := h.live hne
  have hrl : s.ready.length ≤ p := by
    have := congrArg List.length h.txt
    rw [List.length_append, List.length_take] at this
    omega
  have hw : s.win = 1024 - s.ready.length := by unfold FS.win; rw [hne, h.size]; rfl
  have hlen : s.held.length = 1025 := by rw [hs.len, h.size]
  intro k
  induction k with
  | zero =>
    intro _ i
    rw [layK, hheld i]
    by_cases hc : p + i < T.length ∧ came.getD (p + i) false = true
    · rw [if_pos hc, if_pos ⟨hc.1, .inl hc.2⟩]
    · rw [if_neg hc, if_neg]
      rintro ⟨h1, h2 | h2⟩
      · exact hc ⟨h1, h2⟩
      · omega
  | succ k ih =>
    intro hk i
    have ih := ih (by omega)
    have hl := layK_len s ((base + a) % 4294967296) ((T.drop a).take n) k
    have hdat : ((T.drop a).take n).getD k 0 = T.getD (a + k) 0 := by
      simp only [List.getD_eq_getElem?_getD, List.getElem?_take, List.getElem?_drop, if_pos (show k < n by omega)]
    rw [layK, hdat]
    have hp := h.hp
    by_cases hj : p ≤ a + k
    · have hofs : ofs (((base + a) % 4294967296 + k) % 4294967296) s.next = a + k - p := by rw [ofs_def, hnx]; omega
      rw [hofs]
      unfold lay1
      have ih0 := ih (a + k - p)
      rw [show p + (a + k - p) = a + k by omega] at ih0
      by_cases hc : came.getD (a + k) false = true
      · have e0 : (layK s ((base + a) % 4294967296) ((T.drop a).take n) k).getD (a + k - p) none = some (T.getD (a + k) 0) := by rw [ih0, if_pos ⟨by omega, .inl hc⟩]
        rw [if_neg (by rw [e0]; simp), ih i]
        by_cases hi : p + i = a + k
        · rw [hi, if_pos ⟨by omega, .inl hc⟩, if_pos ⟨by omega, .inl hc⟩]
        · have : (p + i < T.length ∧ (came.getD (p + i) false = true ∨ (a ≤ p + i ∧ p + i < a + k))) = (p + i < T.length ∧ (came.getD (p + i) false = true ∨ (a ≤ p + i ∧ p + i < a + (k + 1)))) := by
            apply propext; constructor <;> rintro ⟨h1, h2 | h2⟩ <;> first | exact ⟨h1, .inl h2⟩ | exact ⟨h1, .inr (by omega)⟩
          simp only [this]
      · have e0 : (layK s ((base + a) % 4294967296) ((T.drop a).take n) k).getD (a + k - p) none = none := by
          rw [ih0, if_neg]
          rintro ⟨_, h2 | h2⟩
          · exact hc h2
          · omega
        rw [if_pos, getD_set]
        · by_cases hi : p + i = a + k
          · rw [if_pos ⟨by omega, by rw [hl, hlen]; omega⟩, if_pos ⟨by omega, .inr (by omega)⟩, hi]
          · rw [if_neg (by omega), ih i]
            have : (p + i < T.length ∧ (came.getD (p + i) false = true ∨ (a ≤ p + i ∧ p + i < a + k))) = (p + i < T.length ∧ (came.getD (p + i) false = true ∨ (a ≤ p + i ∧ p + i < a + (k + 1)))) := by
              apply propext; constructor <;> rintro ⟨h1, h2 | h2⟩ <;> first | exact ⟨h1, .inl h2⟩ | exact ⟨h1, .inr (by omega)⟩
            simp only [this]
        · rw [e0, decide_eq_true (by omega : a + k - p < s.win)]
          cases he : s.hasEnd
          · rfl
          · rw [hendo he, decide_eq_true (by omega : a + k - p < T.length - p)]; rfl
    · have hofs : ¬ ofs (((base + a) % 4294967296 + k) % 4294967296) s.next < s.win := by rw [ofs_def, hnx]; omega
      unfold lay1
      rw [if_neg (by rw [decide_eq_false hofs]; simp), ih i]
      have : (p + i < T.length ∧ (came.getD (p + i) false = true ∨ (a ≤ p + i ∧ p + i < a + k))) = (p + i < T.length ∧ (came.getD (p + i) false = true ∨ (a ≤ p + i ∧ p + i < a + (k + 1)))) := by
        apply propext; constructor <;> rintro ⟨h1, h2 | h2⟩ <;> first | exact ⟨h1, .inl h2⟩ | exact ⟨h1, .inr (by omega)⟩
      simp only [this]

/-- What came, behind a piece and the end. -/
def came' (came : List Bool) (a n L : Nat) : List Bool := (mark came a n).set L ((mark came a n).getD L false || decide (a + n = L))
theorem came'_get {came : List Bool} {a n L j : Nat} (hl : came.length = L + 1) (han : a + n ≤ L) (hj : j ≤ L) : (came' came a n L).getD j false = if j = L then (came.getD L false || decide (a + n = L)) else (came.getD j false || (decide (a ≤ j) && decide (j < a + n))) := by
  unfold came'
  rw [List.getD_eq_getElem?_getD, List.getElem?_set]
  by_cases h : L = j
  · subst h
    rw [if_pos rfl, if_pos (by rw [mark_len]; omega), if_pos rfl, mark_get _ _ _ _ (by omega)]
    have : (decide (a ≤ L) && decide (L < a + n)) = false := by simp; omega
    rw [this, Bool.or_false]; rfl
  · rw [if_neg h, if_neg (fun e => h e.symm), ← List.getD_eq_getElem?_getD, mark_get _ _ _ _ (by omega)]
theorem wh_put {T : List UInt8} {base : Nat} {s : FS} {told : List UInt8} {came : List Bool} {p : Nat} (h : Wh T base s told came p) (hs : Inv s) (hT : T.length ≤ 1000) (a n : Nat) (han : a + n ≤ T.length) :
    ∃ p', Wh T base (put s ((base + a) % 4294967296) ((T.drop a).take n) (decide (a + n = T.length))) told (came' came a n T.length) p' := by
  have hcl : (came' came a n T.length).length = T.length + 1 := by unfold came'; rw [List.length_set, mark_len]; exact h.len
  have hget := fun {j} (hj : j ≤ T.length) => came'_get (j := j) h.len han hj
  have hmono : ∀ j, j ≤ T.length → came.getD j false = true → (came' came a n T.length).getD j false = true := fun j hj hc => by
    rw [hget hj]
    split
    · rename_i e; subst e; rw [hc]; rfl
    · rw [hc]; rfl
  have hp := h.hp
  cases hne : s.ended
  · have hdl : ((T.drop a).take n).length = n := by rw [List.length_take, List.length_drop]; omega
    have hno : (s.ended || decide (65536 < ((T.drop a).take n).length)) = false := by rw [hne, hdl]; simp; omega
    rw [put_eq hno]
    obtain ⟨hnx, hheld, hend, hendo, hpc, hnd⟩ := h.live hne
    have hlay := layK_text h hs hne hT a n han n (Nat.le_refl _)
    have hrl : s.ready.length ≤ p := by
      have := congrArg List.length h.txt
      rw [List.length_append, List.length_take] at this
      omega
    have hw : s.win = 1024 - s.ready.length := by unfold FS.win; rw [hne, h.size]; rfl
    -- what is laid
    have hl1 : ∀ i, (laid s ((base + a) % 4294967296) ((T.drop a).take n) (decide (a + n = T.length))).held.getD i none = if p + i < T.length ∧ (came' came a n T.length).getD (p + i) false = true then some (T.getD (p + i) 0) else none := fun i => by
      show (layK s _ _ ((T.drop a).take n).length).getD i none = _
      rw [hdl, hlay i]
      by_cases hi : p + i < T.length
      · rw [hget (by omega), if_neg (by omega : ¬ p + i = T.length)]
        have : (p + i < T.length ∧ (came.getD (p + i) false = true ∨ (a ≤ p + i ∧ p + i < a + n))) = (p + i < T.length ∧ (came.getD (p + i) false || (decide (a ≤ p + i) && decide (p + i < a + n))) = true) := by
          simp only [Bool.or_eq_true, Bool.and_eq_true, decide_eq_true_eq]
        simp only [this]
      · rw [if_neg (fun e => hi e.1), if_neg (fun e => hi e.1)]
    have hends : ends s (layK s ((base + a) % 4294967296) ((T.drop a).take n) ((T.drop a).take n).length) (ofs (((base + a) % 4294967296 + ((T.drop a).take n).length) % 4294967296) s.next) (decide (a + n = T.length)) = (decide (a + n = T.length) && !s.hasEnd) := by
      unfold ends
      rw [hdl]
      by_cases hf : a + n = T.length
      · have hofs : ofs (((base + a) % 4294967296 + n) % 4294967296) s.next = T.length - p := by rw [ofs_def, hnx]; omega
        rw [hofs, decide_eq_true (by omega : T.length - p < s.win + 1)]
        have : ((layK s ((base + a) % 4294967296) ((T.drop a).take n) n).drop (T.length - p)).all Option.isNone = true := by
          refine List.all_eq_true.2 fun y hy => ?_
          obtain ⟨j, hj, rfl⟩ := List.mem_iff_getElem.1 hy
          rw [List.length_drop] at hj
          rw [List.getElem_drop]
          have := hlay (T.length - p + j)
          rw [List.getD_eq_getElem?_getD, List.getElem?_eq_getElem (by omega), if_neg (by omega)] at this
          rw [show (layK s ((base + a) % 4294967296) ((T.drop a).take n) n)[T.length - p + j] = none from this]; rfl
        rw [this, Bool.and_true, Bool.and_true]
      · rw [decide_eq_false hf]; simp
    have hhe : (laid s ((base + a) % 4294967296) ((T.drop a).take n) (decide (a + n = T.length))).hasEnd = (came' came a n T.length).getD T.length false := by
      show (s.hasEnd || ends s _ _ _) = _
      rw [hends, hget (Nat.le_refl _), if_pos rfl, ← hend]
      cases s.hasEnd <;> simp
    have heo : (laid s ((base + a) % 4294967296) ((T.drop a).take n) (decide (a + n = T.length))).hasEnd = true → (laid s ((base + a) % 4294967296) ((T.drop a).take n) (decide (a + n = T.length))).endo = T.length - p := fun he => by
      show (if ends s _ _ _ = true then _ else s.endo) = _
      rw [hends]
      cases hx : s.hasEnd
      · have he' : (s.hasEnd || ends s _ _ _) = true := he
        rw [hends, hx, Bool.false_or] at he'
        rw [hx] at *
        rw [if_pos he']
        have hf : a + n = T.length := by simpa using he'
        rw [hdl, ofs_def, hnx]
        omega
      · rw [if_neg (by simp)]; exact hendo hx
    have hur : (laid s ((base + a) % 4294967296) ((T.drop a).take n) (decide (a + n = T.length))).ready = s.ready := rfl
    have hun : (laid s ((base + a) % 4294967296) ((T.drop a).take n) (decide (a + n = T.length))).next = s.next := rfl
    have hus : (laid s ((base + a) % 4294967296) ((T.drop a).take n) (decide (a + n = T.length))).size = s.size := rfl
    generalize laid s ((base + a) % 4294967296) ((T.drop a).take n) (decide (a + n = T.length)) = u at *
    generalize came' came a n T.length = cm at *
    have hq1 := lead_some u.held
    have hq2 := lead_stop u.held
    have hmd : move u = { u with next := if (u.hasEnd && decide (u.endo = lead u.held)) = true then ((u.next + lead u.held) % 4294967296 + 1) % 4294967296 else (u.next + lead u.held) % 4294967296, ready := u.ready ++ bytes (u.held.take (lead u.held)), held := u.held.drop (lead u.held) ++ List.replicate (lead u.held) none, endo := u.endo - lead u.held, ended := u.hasEnd && decide (u.endo = lead u.held) } := rfl
    rw [hmd]
    clear hmd
    generalize lead u.held = q at *
    have hin : ∀ i, i < q → p + i < T.length ∧ cm.getD (p + i) false = true := fun i hi => by
      have h1 := hq1 i hi
      rw [hl1 i] at h1
      by_cases hc : p + i < T.length ∧ cm.getD (p + i) false = true
      · exact hc
      · rw [if_neg hc] at h1; cases h1
    have hpq : p + q ≤ T.length := by
      rcases Nat.eq_zero_or_pos q with h0 | h0
      · omega
      · have := (hin (q - 1) (by omega)).1; omega
    have hby : bytes (u.held.take q) = (T.drop p).take q := bytes_text q hpq fun i hi => by rw [hl1 i, if_pos (hin i hi)]
    have hbef : ∀ j, j < p + q → cm.getD j false = true := fun j hj => by
      by_cases h1 : j < p
      · exact hmono j (by omega) (h.before j h1)
      · have := (hin (j - p) (by omega)).2
        rwa [show p + (j - p) = j by omega] at this
    refine ⟨p + q, hpq, hcl, ?_, hus.trans h.size, hbef, fun hd => ⟨?_, fun i => ?_, hhe, fun he => ?_, fun hlt => ?_, fun hb => ?_⟩, fun hd => ⟨?_, ?_, ?_⟩⟩
    · show told ++ (u.ready ++ bytes (u.held.take q)) = _
      rw [hur, ← List.append_assoc, h.txt, hby, ← List.take_add]
    · show (if (u.hasEnd && decide (u.endo = q)) = true then _ else _) = _
      rw [show (u.hasEnd && decide (u.endo = q)) = false from hd, hun, hnx]
      simp only [Bool.false_eq_true, if_false]
      omega
    · show (u.held.drop q ++ List.replicate q none).getD i none = _
      rw [getD_shift, hl1]
      have e : p + (i + q) = p + q + i := by omega
      rw [e]
    · show u.endo - q = _
      rw [heo he]; omega
    · cases hc : cm.getD (p + q) false with
      | false => rfl
      | true =>
        rw [hl1 q, if_pos ⟨hlt, hc⟩] at hq2
        cases hq2
    · have hd' : (u.hasEnd && decide (u.endo = q)) = false := hd
      rw [hhe, hb.2, Bool.true_and, decide_eq_false_iff_not] at hd'
      have := heo (by rw [hhe]; exact hb.2)
      omega
    · have hd' : (u.hasEnd && decide (u.endo = q)) = true := hd
      simp only [Bool.and_eq_true, decide_eq_true_eq] at hd'
      have := heo hd'.1
      omega
    · have hd' : (u.hasEnd && decide (u.endo = q)) = true := hd
      simp only [Bool.and_eq_true, decide_eq_true_eq] at hd'
      rw [← hhe]; exact hd'.1
    · have hd' : (u.hasEnd && decide (u.endo = q)) = true := hd
      show (if (u.hasEnd && decide (u.endo = q)) = true then _ else _) = _
      rw [if_pos hd', hun, hnx]
      simp only [Bool.and_eq_true, decide_eq_true_eq] at hd'
      have := heo hd'.1
      omega
  · obtain ⟨h1, h2, h3⟩ := h.done hne
    rw [put_no (by rw [hne]; rfl)]
    exact ⟨p, h.hp, hcl, h.txt, h.size, fun j hj => hmono j (by omega) (h.before j hj), (fun e => by rw [hne] at e; cases e), fun _ => ⟨h1, hmono _ (Nat.le_refl _) h2, h3⟩⟩
/-- What is told at the end. -/
theorem wh_end {T : List UInt8} {base : Nat} {s : FS} {told : List UInt8} {came : List Bool} {p n : Nat} (h : Wh T base s told came p) (hT : T.length ≤ 1000) (hn : n ≤ T.length) (h1 : ∀ j, j < n → came.getD j false = true) (h2 : n < T.length → came.getD n false = false) :
    told ++ s.ready.take (readN s 2000) = T.take n ∧ s.ended = (decide (n = T.length) && came.getD T.length false) ∧ s.next = (if (decide (n = T.length) && came.getD T.length false) = true then (((base + n) % 4294967296) + 1) % 4294967296 else (base + n) % 4294967296) := by
  have hp := h.hp
  have hrl : s.ready.length ≤ p := by
    have := congrArg List.length h.txt
    rw [List.length_append, List.length_take] at this
    omega
  have hnp : n = p := by
    rcases Nat.lt_trichotomy n p with hlt | he | hgt
    · have h3 := h.before n hlt
      rw [h2 (by omega)] at h3; cases h3
    · exact he
    · cases hne : s.ended
      · have h3 := (h.live hne).2.2.2.2.1 (by omega)
        rw [h1 p hgt] at h3; cases h3
      · have := (h.done hne).1; omega
  subst hnp
  have hrn : readN s 2000 = s.ready.length := by unfold readN; omega
  refine ⟨by rw [hrn, List.take_length]; exact h.txt, ?_⟩
  cases hne : s.ended
  · obtain ⟨a1, a2, a3, a4, a5, a6⟩ := h.live hne
    have : (decide (n = T.length) && came.getD T.length false) = false := by
      cases hb : (decide (n = T.length) && came.getD T.length false) with
      | false => rfl
      | true => simp only [Bool.and_eq_true, decide_eq_true_eq] at hb; exact absurd hb a6
    rw [this]
    exact ⟨rfl, a1⟩
  · obtain ⟨a1, a2, a3⟩ := h.done hne
    rw [decide_eq_true a1, a2]
    refine ⟨rfl, ?_⟩
    rw [a3, ← a1, Bool.and_self, if_pos rfl]
    omega
end FL
end Go.Proofs.Ytkmkgfgppblleaa
