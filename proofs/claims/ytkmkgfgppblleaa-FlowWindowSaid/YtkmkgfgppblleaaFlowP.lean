/- Plain: the queue of layer 20 as the document tells it: what is held, by how far behind the next byte. -/
import Derived.Test.YtkmkgfgppblleaaB
import Derived.Maps.OwnSet
namespace Go.Proofs.Ytkmkgfgppblleaa
namespace FL

/-- How far x stands behind n. -/
def ofs (x n : Nat) : Nat := (x + 4294967296 - n) % 4294967296
theorem ofs_lt (x n : Nat) : ofs x n < 4294967296 := Nat.mod_lt _ (by decide)
theorem ofs_int (x n : Nat) (hn : n < 4294967296) : ((x : Int) - n) % 4294967296 = (ofs x n : Nat) := by unfold ofs; omega

structure FS where
  next : Nat
  size : Nat
  ready : List UInt8
  held : List (Option UInt8)
  hasEnd : Bool
  endo : Nat
  ended : Bool

def new (next size : Nat) : FS := ⟨next, size, [], List.replicate (size + 1) none, false, 0, false⟩
def FS.win (s : FS) : Nat := if s.ended then 0 else s.size - s.ready.length
def FS.cnt (s : FS) : Nat := s.held.countP Option.isSome

/-- One byte that came. -/
def lay1 (s : FS) (at' : Nat) (c : UInt8) (l : List (Option UInt8)) : List (Option UInt8) :=
  if decide (at' < s.win) && (l.getD at' none).isNone && (!s.hasEnd || decide (at' < s.endo)) then l.set at' (some c) else l
/-- The first k bytes that came. -/
def layK (s : FS) (seq : Nat) (data : List UInt8) : Nat → List (Option UInt8)
  | 0 => s.held
  | k + 1 => lay1 s (ofs ((seq + k) % 4294967296) s.next) (data.getD k 0) (layK s seq data k)
/-- Does the end lie here? -/
def ends (s : FS) (l : List (Option UInt8)) (e : Nat) (fin : Bool) : Bool := fin && !s.hasEnd && decide (e < s.win + 1) && (l.drop e).all Option.isNone
/-- What is held next. -/
def lead (l : List (Option UInt8)) : Nat := (l.takeWhile Option.isSome).length
def bytes (l : List (Option UInt8)) : List UInt8 := l.filterMap id
def move (s : FS) : FS :=
  let n := lead s.held
  let done := s.hasEnd && decide (s.endo = n)
  { s with next := if done then ((s.next + n) % 4294967296 + 1) % 4294967296 else (s.next + n) % 4294967296, ready := s.ready ++ bytes (s.held.take n), held := s.held.drop n ++ List.replicate n none, endo := s.endo - n, ended := done }
def put (s : FS) (seq : Nat) (data : List UInt8) (fin : Bool) : FS :=
  if s.ended || decide (65536 < data.length) then s else
  let l := layK s seq data data.length
  let e := ofs ((seq + data.length) % 4294967296) s.next
  let b := ends s l e fin
  move { s with held := l, hasEnd := s.hasEnd || b, endo := if b then e else s.endo }
def took (s : FS) (seq : Nat) (data : List UInt8) (fin : Bool) : Bool := if s.ended || decide (65536 < data.length) then false else (put s seq data fin).next != s.next
def readN (s : FS) (most : Int) : Nat := min (max most 0).toNat s.ready.length
def read (s : FS) (most : Int) : FS := { s with ready := s.ready.drop (readN s most) }

/-- What a queue is, always. -/
structure Inv (s : FS) : Prop where
  next : s.next < 4294967296
  size : 1 ≤ s.size ∧ s.size ≤ 65536
  len : s.held.length = s.size + 1
  room : s.ready.length ≤ s.size
  held : ∀ i, (s.held.getD i none).isSome = true → i < s.win
  behind : s.hasEnd = true → s.ended = false → s.endo ≤ s.win ∧ ∀ i, (s.held.getD i none).isSome = true → i < s.endo

theorem getD_some {l : List (Option UInt8)} {i : Nat} (h : (l.getD i none).isSome = true) : i < l.length := by
  rcases Nat.lt_or_ge i l.length with h' | h'
  · exact h'
  · rw [List.getD_eq_getElem?_getD, List.getElem?_eq_none h'] at h; cases h

theorem inv_new {next size : Nat} (hn : next < 4294967296) (h : 1 ≤ size ∧ size ≤ 65536) : Inv (new next size) :=
  by
  refine ⟨hn, h, by simp [new], by simp [new], fun i hi => ?_, fun hc => by simp [new] at hc⟩
  ·
    have h0 : (List.replicate (size + 1) (none : Option UInt8)).getD i none = none := by
      rw [List.getD_eq_getElem?_getD]
      rcases Nat.lt_or_ge i (size + 1) with h' | h'
      · rw [List.getElem?_replicate, if_pos h']; rfl
      · rw [List.getElem?_eq_none (by simpa using h')]; rfl
    change ((List.replicate (size + 1) (none : Option UInt8)).getD i none).isSome = true at hi
    rw [h0] at hi
    cases hi

theorem getD_set (l : List (Option UInt8)) (k i : Nat) (c : Option UInt8) : (l.set k c).getD i none = if i = k ∧ k < l.length then c else l.getD i none := by
  rw [List.getD_eq_getElem?_getD, List.getElem?_set, List.getD_eq_getElem?_getD]
  by_cases h : k = i
  · subst h
    by_cases h2 : k < l.length
    · simp [h2]
    · simp [h2]
  · rw [if_neg h, if_neg (by omega)]

theorem lay1_len (s : FS) (a : Nat) (c : UInt8) (l : List (Option UInt8)) : (lay1 s a c l).length = l.length := by
  unfold lay1; split <;> simp
theorem layK_len (s : FS) (seq : Nat) (data : List UInt8) (k : Nat) : (layK s seq data k).length = s.held.length := by
  induction k with
  | zero => rfl
  | succ k ih => rw [layK, lay1_len, ih]
/-- What is held behind a byte that came. -/
theorem lay1_some {s : FS} {a : Nat} {c : UInt8} {l : List (Option UInt8)} {i : Nat} (h : ((lay1 s a c l).getD i none).isSome = true) :
    (l.getD i none).isSome = true ∨ (i = a ∧ a < s.win ∧ (s.hasEnd = true → a < s.endo)) := by
  unfold lay1 at h
  split at h
  · rename_i hc
    rw [getD_set] at h
    split at h
    · rename_i h2
      right
      simp only [Bool.and_eq_true, decide_eq_true_eq, Bool.or_eq_true, Bool.not_eq_true'] at hc
      refine ⟨h2.1, hc.1.1, fun he => ?_⟩
      rcases hc.2 with h3 | h3
      · rw [he] at h3; cases h3
      · exact h3
    · exact .inl h
  · exact .inl h
theorem layK_some {s : FS} (hs : Inv s) (hne : s.ended = false) (seq : Nat) (data : List UInt8) (k : Nat) :
    ∀ i, ((layK s seq data k).getD i none).isSome = true → i < s.win ∧ (s.hasEnd = true → i < s.endo) := by
  induction k with
  | zero => exact fun i hi => ⟨hs.held i hi, fun he => (hs.behind he hne).2 i hi⟩
  | succ k ih =>
    intro i hi
    rcases lay1_some hi with h | ⟨rfl, h1, h2⟩
    · exact ih i h
    · exact ⟨h1, h2⟩

theorem lead_le (l : List (Option UInt8)) : lead l ≤ l.length := by
  unfold lead
  induction l with
  | nil => exact Nat.le_refl _
  | cons a l ih =>
    rw [List.takeWhile_cons]
    split
    · simp only [List.length_cons]; omega
    · simp
theorem lead_some (l : List (Option UInt8)) : ∀ i, i < lead l → (l.getD i none).isSome = true := by
  induction l with
  | nil => intro i hi; simp [lead] at hi
  | cons a l ih =>
    intro i hi
    unfold lead at hi
    rw [List.takeWhile_cons] at hi
    cases ha : a.isSome
    · rw [ha] at hi; simp at hi
    · rw [ha] at hi
      cases i with
      | zero => simpa using ha
      | succ i =>
        simp only [if_true, List.length_cons] at hi
        simpa using ih i (by unfold lead; omega)
theorem lead_stop (l : List (Option UInt8)) : (l.getD (lead l) none).isSome = false := by
  induction l with
  | nil => rfl
  | cons a l ih =>
    unfold lead
    rw [List.takeWhile_cons]
    cases ha : a.isSome
    · simpa using ha
    · simpa [lead] using ih
theorem bytes_len (l : List (Option UInt8)) : (bytes (l.take (lead l))).length = lead l := by
  have h : l.take (lead l) = l.takeWhile Option.isSome := by
    unfold lead
    induction l with
    | nil => rfl
    | cons a l ih =>
      rw [List.takeWhile_cons]
      split
      · simp only [List.length_cons, List.take_succ_cons, ih]
      · rfl
  rw [h]
  clear h
  unfold bytes lead
  have hall : ∀ x ∈ l.takeWhile Option.isSome, x.isSome = true := fun x hx => by
    induction l with
    | nil => simp at hx
    | cons a l ih =>
      rw [List.takeWhile_cons] at hx
      split at hx
      · rcases List.mem_cons.1 hx with rfl | h2
        · assumption
        · exact ih h2
      · simp at hx
  generalize l.takeWhile Option.isSome = m at *
  induction m with
  | nil => rfl
  | cons a m ih =>
    obtain ⟨c, rfl⟩ := Option.isSome_iff_exists.1 (hall a (by simp))
    simp only [List.filterMap_cons, id, List.length_cons, ih (fun x hx => hall x (by simp [hx]))]

theorem getD_shift (l : List (Option UInt8)) (n i : Nat) : (l.drop n ++ List.replicate n none).getD i none = l.getD (i + n) none := by
  simp only [List.getD_eq_getElem?_getD]
  rw [List.getElem?_append]
  split
  · rw [List.getElem?_drop, Nat.add_comm]
  · rename_i h
    rw [List.length_drop] at h
    rw [List.getElem?_eq_none (i := i + n) (by omega), List.getElem?_replicate]
    split <;> rfl

/-- Moving keeps it. -/
theorem inv_move {s : FS} (hs : Inv s) (hne : s.ended = false) : Inv (move s) := by
  have hl := lead_le s.held
  have hw : s.win = s.size - s.ready.length := by unfold FS.win; rw [hne]; rfl
  have hn : lead s.held ≤ s.win := by
    rcases Nat.eq_zero_or_pos (lead s.held) with h | h
    · omega
    · have := hs.held _ (lead_some s.held (lead s.held - 1) (by omega)); omega
  have hb := bytes_len s.held
  have hroom := hs.room
  have hz := hs.size
  have hlen := hs.len
  have hx := hs.next
  refine ⟨?_, hz, ?_, ?_, ?_, ?_⟩
  · show (if _ then _ else _) < _
    split <;> exact Nat.mod_lt _ (by decide)
  · show (s.held.drop _ ++ List.replicate _ none).length = s.size + 1
    rw [List.length_append, List.length_drop, List.length_replicate]; omega
  · show (s.ready ++ bytes _).length ≤ s.size
    rw [List.length_append, hb]; omega
  · intro i hi
    change ((s.held.drop _ ++ List.replicate _ none).getD i none).isSome = true at hi
    rw [getD_shift] at hi
    have h1 := hs.held _ hi
    by_cases hd : (s.hasEnd && decide (s.endo = lead s.held)) = true
    · simp only [Bool.and_eq_true, decide_eq_true_eq] at hd
      have := (hs.behind hd.1 hne).2 _ hi
      omega
    · show i < (if (s.hasEnd && decide (s.endo = lead s.held)) = true then 0 else s.size - (s.ready ++ bytes (s.held.take (lead s.held))).length)
      rw [if_neg hd, List.length_append, hb]
      omega
  · intro he hd
    have hd' : (s.hasEnd && decide (s.endo = lead s.held)) = false := hd
    have he' : s.hasEnd = true := he
    obtain ⟨h1, h2⟩ := hs.behind he' hne
    have hwin : (move s).win = s.size - (s.ready.length + lead s.held) := by
      show (if (s.hasEnd && decide (s.endo = lead s.held)) = true then 0 else s.size - (s.ready ++ bytes (s.held.take (lead s.held))).length) = _
      rw [hd', List.length_append, hb]; rfl
    rw [hwin]
    refine ⟨?_, fun i hi => ?_⟩
    · show s.endo - lead s.held ≤ _
      omega
    · change ((s.held.drop _ ++ List.replicate _ none).getD i none).isSome = true at hi
      rw [getD_shift] at hi
      have := h2 _ hi
      show i < s.endo - lead s.held
      omega
theorem all_none {l : List (Option UInt8)} {e : Nat} (h : (l.drop e).all Option.isNone = true) : ∀ i, (l.getD i none).isSome = true → i < e := fun i hi => by
  rcases Nat.lt_or_ge i e with h' | h'
  · exact h'
  · have hlt := getD_some hi
    have h1 := List.all_eq_true.1 h (l.getD i none) (by
      have : (l.drop e)[i - e]? = some (l.getD i none) := by
        rw [List.getElem?_drop, show e + (i - e) = i by omega, List.getD_eq_getElem?_getD, List.getElem?_eq_getElem hlt]; rfl
      exact List.mem_of_getElem? this)
    cases hx : l.getD i none <;> rw [hx] at h1 hi <;> cases h1 <;> cases hi
/-- Before the move. -/
def laid (s : FS) (seq : Nat) (data : List UInt8) (fin : Bool) : FS :=
  let l := layK s seq data data.length
  let e := ofs ((seq + data.length) % 4294967296) s.next
  let b := ends s l e fin
  { s with held := l, hasEnd := s.hasEnd || b, endo := if b then e else s.endo }
theorem inv_laid {s : FS} (hs : Inv s) (hne : s.ended = false) (seq : Nat) (data : List UInt8) (fin : Bool) : Inv (laid s seq data fin) := by
  have h1 := layK_some hs hne seq data data.length
  refine ⟨hs.next, hs.size, (layK_len ..).trans hs.len, hs.room, fun i hi => (h1 i hi).1, fun he hd => ?_⟩
  show (if ends s (layK s seq data data.length) (ofs ((seq + data.length) % 4294967296) s.next) fin = true then ofs ((seq + data.length) % 4294967296) s.next else s.endo) ≤ s.win ∧ ∀ i, ((layK s seq data data.length).getD i none).isSome = true → i < (if ends s (layK s seq data data.length) (ofs ((seq + data.length) % 4294967296) s.next) fin = true then ofs ((seq + data.length) % 4294967296) s.next else s.endo)
  by_cases hb : ends s (layK s seq data data.length) (ofs ((seq + data.length) % 4294967296) s.next) fin = true
  · rw [if_pos hb]
    unfold ends at hb
    simp only [Bool.and_eq_true, decide_eq_true_eq] at hb
    exact ⟨by omega, all_none hb.2⟩
  · rw [if_neg hb]
    have he' : s.hasEnd = true := by
      have : (s.hasEnd || ends s (layK s seq data data.length) (ofs ((seq + data.length) % 4294967296) s.next) fin) = true := he
      simpa [hb] using this
    exact ⟨(hs.behind he' hne).1, fun i hi => (h1 i hi).2 he'⟩
theorem put_eq {s : FS} {seq : Nat} {data : List UInt8} {fin : Bool} (h : (s.ended || decide (65536 < data.length)) = false) : put s seq data fin = move (laid s seq data fin) := by
  unfold put; rw [h]; rfl
theorem put_no {s : FS} {seq : Nat} {data : List UInt8} {fin : Bool} (h : (s.ended || decide (65536 < data.length)) = true) : put s seq data fin = s := by
  unfold put; rw [h]; rfl
theorem inv_put {s : FS} (hs : Inv s) (seq : Nat) (data : List UInt8) (fin : Bool) : Inv (put s seq data fin) := by
  cases h : (s.ended || decide (65536 < data.length))
  · rw [put_eq h]
    have hne : s.ended = false := by cases he : s.ended <;> rw [he] at h <;> first | rfl | cases h
    exact inv_move (inv_laid hs hne seq data fin) hne
  · rw [put_no h]; exact hs
theorem inv_read {s : FS} (hs : Inv s) (most : Int) : Inv (read s most) := by
  have hroom := hs.room
  have hl : (read s most).ready.length = s.ready.length - readN s most := by unfold read; exact List.length_drop
  have hw : s.win ≤ (read s most).win := by
    unfold FS.win
    show (if s.ended then 0 else _) ≤ (if s.ended then 0 else s.size - (read s most).ready.length)
    rw [hl]; split <;> omega
  exact ⟨hs.next, hs.size, hs.len, by rw [hl]; show _ ≤ s.size; omega, fun i hi => Nat.lt_of_lt_of_le (hs.held i hi) hw, fun he hd => ⟨Nat.le_trans (hs.behind he hd).1 hw, (hs.behind he hd).2⟩⟩

theorem getD_cons (a : Option UInt8) (l : List (Option UInt8)) (i : Nat) : (a :: l).getD (i + 1) none = l.getD i none := rfl
/-! ### the map -/
abbrev Dt := DataW Unit
def key (x : Nat) : Lit := .int .u32 (x : Int)
theorem key_ne {x y : Nat} (h : x ≠ y) : key x ≠ key y := fun e => by
  unfold key at e
  injection e with _ e
  omega
/-- The map holds what is held, each byte under its number. -/
structure FMap (D : Dt) (nx : Nat) (l : List (Option UInt8)) : Prop where
  tidy : Maps.Tidy D
  has : ∀ x, x < 4294967296 → Maps.has D (key x) = (l.getD (ofs x nx) none).isSome
  val : ∀ x c, x < 4294967296 → l.getD (ofs x nx) none = some c → ∀ z, D.atKey (key x) z = .lit (.int .u8 (c.toNat : Int))
  size : Maps.size D = l.countP Option.isSome

theorem ofs_inj {x y n : Nat} (hx : x < 4294967296) (hy : y < 4294967296) (hn : n < 4294967296) (h : ofs x n = ofs y n) : x = y := by unfold ofs at h; omega
theorem ofs_self {n : Nat} (hn : n < 4294967296) : ofs n n = 0 := by unfold ofs; omega
theorem ofs_next {x n : Nat} (hx : x < 4294967296) (hn : n < 4294967296) (hne : x ≠ n) : ofs x n = ofs x ((n + 1) % 4294967296) + 1 := by unfold ofs; omega
theorem ofs_next_self {n : Nat} (hn : n < 4294967296) : 65537 < ofs n ((n + 1) % 4294967296) := by unfold ofs; omega

attribute [irreducible] ofs
theorem isKeyLit (x : Nat) : WideAt.IsKeyLit (key x) := by unfold key; exact trivial

theorem count_set {l : List (Option UInt8)} {a : Nat} {c : UInt8} (ha : a < l.length) (hn : (l.getD a none).isNone = true) : (l.set a (some c)).countP Option.isSome = l.countP Option.isSome + 1 := by
  induction l generalizing a with
  | nil => simp at ha
  | cons x l ih =>
    cases a with
    | zero =>
      have : x = none := by simpa using hn
      subst this
      simp [List.countP_cons]
    | succ a =>
      rw [List.set_cons_succ, List.countP_cons, List.countP_cons, ih (by simpa using ha) (by simpa using hn)]
      omega
theorem FMap.put {D : Dt} {nx : Nat} {l : List (Option UInt8)} (h : FMap D nx l) {x : Nat} {c : UInt8} (hx : x < 4294967296) (hnx : nx < 4294967296) (ha : ofs x nx < l.length) (hn : (l.getD (ofs x nx) none).isNone = true) :
    FMap (D.put (key x) (.lit (.int .u8 (c.toNat : Int)))) nx (l.set (ofs x nx) (some c)) := by
  have hno : Maps.has D (key x) = false := by
    rw [h.has x hx]
    cases hg : l.getD (ofs x nx) none <;> rw [hg] at hn
    · rfl
    · cases hn
  refine ⟨h.tidy.put (isKeyLit x) _, fun y hy => ?_, fun y d hy hd z => ?_, ?_⟩
  · rw [getD_set]
    by_cases hxy : y = x
    · subst hxy
      rw [Maps.has_put_same h.tidy.isMap (isKeyLit y), if_pos ⟨rfl, ha⟩]; rfl
    · rw [Maps.has_put_other (key_ne hxy), if_neg (fun e => hxy (ofs_inj hy hx hnx e.1)), h.has y hy]
  · rw [getD_set] at hd
    by_cases hxy : y = x
    · subst hxy
      rw [if_pos ⟨rfl, ha⟩] at hd
      injection hd with hd
      subst hd
      exact Maps.atKey_put_same h.tidy.isMap (isKeyLit y) _ z
    · rw [if_neg (fun e => hxy (ofs_inj hy hx hnx e.1))] at hd
      rw [Maps.atKey_put_other (key_ne hxy)]
      exact h.val y d hy hd z
  · rw [Maps.size_put h.tidy, hno, count_set ha hn, h.size]; rfl
theorem FMap.del {D : Dt} {nx : Nat} {c : UInt8} {l : List (Option UInt8)} (h : FMap D nx (some c :: l)) (hnx : nx < 4294967296) (hl : l.length ≤ 65537) : FMap (D.del (key nx)) ((nx + 1) % 4294967296) l := by
  have hin : Maps.has D (key nx) = true := by rw [h.has nx hnx, ofs_self hnx]; rfl
  refine ⟨h.tidy.del _, fun y hy => ?_, fun y d hy hd z => ?_, ?_⟩
  · by_cases hxy : y = nx
    · subst hxy
      have hf := ofs_next_self hy
      rw [Maps.has_del_same, List.getD_eq_getElem?_getD, List.getElem?_eq_none (by omega)]; rfl
    · rw [Maps.has_del_other (key_ne hxy), h.has y hy, ofs_next hy hnx hxy, getD_cons]
  · by_cases hxy : y = nx
    · subst hxy
      have hf := ofs_next_self hy
      rw [List.getD_eq_getElem?_getD, List.getElem?_eq_none (by omega)] at hd; cases hd
    · rw [Maps.atKey_del_other (key_ne hxy)]
      exact h.val y d hy (by rw [ofs_next hy hnx hxy, getD_cons]; exact hd) z
  · have h1 := Maps.size_del h.tidy (k := key nx)
    rw [hin, h.size, List.countP_cons] at h1
    simpa using h1
theorem FMap.pad {D : Dt} {nx : Nat} {l : List (Option UInt8)} (h : FMap D nx l) (n : Nat) : FMap D nx (l ++ List.replicate n none) := by
  have e : ∀ i, (l ++ List.replicate n none).getD i none = l.getD i none := fun i => by
    simp only [List.getD_eq_getElem?_getD, List.getElem?_append]
    split
    · rfl
    · rename_i hi
      rw [List.getElem?_eq_none (l := l) (by omega), List.getElem?_replicate]
      split <;> rfl
  exact ⟨h.tidy, fun x hx => by rw [e]; exact h.has x hx, fun x c hx hc => h.val x c hx (by rw [← e]; exact hc), by
    rw [List.countP_append, h.size]
    have : (List.replicate n (none : Option UInt8)).countP Option.isSome = 0 := by simp [List.countP_replicate]
    omega⟩
/-- Where nothing is held, the next number may be any. -/
theorem FMap.none_any {D : Dt} {nx : Nat} {l : List (Option UInt8)} (h : FMap D nx l) (hn : ∀ i, (l.getD i none).isSome = false) (m : Nat) : FMap D m l :=
  ⟨h.tidy, fun x hx => by rw [h.has x hx, hn, hn], fun x c hx hc => absurd (hn (ofs x m)) (by rw [hc]; exact fun e => Bool.noConfusion e), h.size⟩
theorem fmap_new (nx n : Nat) : FMap (.map []) nx (List.replicate n none) := by
  have h0 : ∀ i, (List.replicate n (none : Option UInt8)).getD i none = none := fun i => by
    rw [List.getD_eq_getElem?_getD, List.getElem?_replicate]
    split <;> rfl
  refine ⟨Maps.tidy_empty, fun x hx => ?_, fun x c hx hc => ?_, ?_⟩
  · rw [h0]; rfl
  · rw [h0] at hc; cases hc
  · simp [Maps.size, List.countP_replicate]
end FL
end Go.Proofs.Ytkmkgfgppblleaa
