/- Segments in plain words: how they are written and read, and their sum. -/
import Derived.Test.YtidkbphdihlbaaaB
namespace Go.Proofs.Ytidkbphdihlbaaa.SG

/-- A text of these bytes. -/
def bs (l : List UInt8) : ByteArray := ⟨l.toArray⟩
/-- A number as so many bytes, the highest first. -/
def be : Nat → Nat → List UInt8
  | 0, _ => []
  | n + 1, x => be n (x / 256) ++ [UInt8.ofNat (x % 256)]
theorem be_length (n x : Nat) : (be n x).length = n := by
  induction n generalizing x with
  | zero => rfl
  | succ n ih => rw [be, List.length_append, ih]; rfl
/-- A number out of bytes, the highest first. -/
def val (l : List UInt8) : Nat := l.foldl (fun x c => 256 * x + c.toNat) 0
theorem val_snoc (l : List UInt8) (c : UInt8) : val (l ++ [c]) = 256 * val l + c.toNat := by simp [val]
theorem toNat_mod (x : Nat) : (UInt8.ofNat (x % 256)).toNat = x % 256 := by
  rw [UInt8.toNat_ofNat']; omega
theorem val_be (n x : Nat) : val (be n x) = x % 256 ^ n := by
  induction n generalizing x with
  | zero => simp [be, val, Nat.mod_one]
  | succ n ih =>
    rw [be, val_snoc, ih, toNat_mod, Nat.pow_succ, Nat.mul_comm (256 ^ n), Nat.mod_mul]
    omega
theorem val_be_lt {n x : Nat} (h : x < 256 ^ n) : val (be n x) = x := by rw [val_be, Nat.mod_eq_of_lt h]
theorem val_lt (l : List UInt8) : val l < 256 ^ l.length := by
  have : ∀ (l : List UInt8) (a : Nat), l.foldl (fun x c => 256 * x + c.toNat) a < (a + 1) * 256 ^ l.length := by
    intro l
    induction l with
    | nil => intro a; simp
    | cons c r ih =>
      intro a
      have h := ih (256 * a + c.toNat)
      have hc := c.toNat_lt
      rw [List.foldl_cons, List.length_cons, Nat.pow_succ]
      refine Nat.lt_of_lt_of_le h ?_
      rw [show (a + 1) * (256 ^ r.length * 256) = (256 * (a + 1)) * 256 ^ r.length by rw [Nat.mul_comm (256 ^ r.length), ← Nat.mul_assoc, Nat.mul_comm (a + 1)]]
      exact Nat.mul_le_mul_right _ (by omega)
  simpa [val] using this l 0
/-- Bytes from the back. -/
theorem be_get (n x k : Nat) (h : k < n) : (be n x).getD (n - 1 - k) 0 = UInt8.ofNat (x / 256 ^ k % 256) := by
  induction n generalizing x k with
  | zero => omega
  | succ n ih =>
    rw [be, List.getD_eq_getElem?_getD, List.getElem?_append]
    have hl := be_length n (x / 256)
    cases k with
    | zero => rw [if_neg (by omega)]; simp [hl]
    | succ k =>
      rw [if_pos (by omega), ← List.getD_eq_getElem?_getD, show n + 1 - 1 - (k + 1) = n - 1 - k by omega, ih _ _ (by omega), Nat.div_div_eq_div_mul, Nat.pow_succ, Nat.mul_comm 256]

/-- The sum of words of two bytes; even: the next byte is a word's first. -/
def ss : Bool → List UInt8 → Nat
  | _, [] => 0
  | true, c :: r => 256 * c.toNat + ss false r
  | false, c :: r => c.toNat + ss true r
theorem ss_append (b : Bool) (l m : List UInt8) : ss b (l ++ m) = ss b l + ss (b == (l.length % 2 == 0)) m := by
  induction l generalizing b with
  | nil => cases b <;> simp [ss]
  | cons c r ih =>
    have hp : ((r.length + 1) % 2 == 0) = !(r.length % 2 == 0) := by
      rcases Nat.mod_two_eq_zero_or_one r.length with h | h <;> simp [h] <;> omega
    cases b
    · simp only [List.cons_append, ss, List.length_cons, hp]
      rw [ih]
      cases (r.length % 2 == 0) <;> simp <;> omega
    · simp only [List.cons_append, ss, List.length_cons, hp]
      rw [ih]
      cases (r.length % 2 == 0) <;> simp <;> omega
theorem ss_even (l m : List UInt8) (h : l.length % 2 = 0) : ss true (l ++ m) = ss true l + ss true m := by
  rw [ss_append, h]; rfl
theorem ss_le (b : Bool) (l : List UInt8) : ss b l ≤ 65280 * l.length := by
  induction l generalizing b with
  | nil => cases b <;> simp [ss]
  | cons c r ih =>
    have hc := c.toNat_lt
    cases b <;> simp only [ss, List.length_cons]
    · have := ih true; omega
    · have := ih false; omega
def wt (i : Nat) : Nat := if i % 2 = 0 then 256 else 1
theorem ss_set (b : Bool) (l : List UInt8) (i : Nat) (c : UInt8) (h : i < l.length) : ss b (l.set i c) + (if b then wt i else wt (i + 1)) * (l.getD i 0).toNat = ss b l + (if b then wt i else wt (i + 1)) * c.toNat := by
  induction l generalizing b i with
  | nil => simp at h
  | cons d r ih =>
    cases i with
    | zero => cases b <;> simp [ss, wt] <;> omega
    | succ i =>
      have h1 := ih (!b) i (by simpa using h)
      cases b
      · simp only [List.set_cons_succ, ss, List.getD_cons_succ, Bool.false_eq_true, if_false, Bool.not_false, if_true] at h1 ⊢
        rw [show wt (i + 1 + 1) = wt i by unfold wt; rw [show (i + 1 + 1) % 2 = i % 2 by omega]]
        omega
      · simp only [List.set_cons_succ, ss, List.getD_cons_succ, Bool.not_true, Bool.false_eq_true, if_false, if_true] at h1 ⊢
        omega
theorem ss_take_succ (l : List UInt8) (k : Nat) (h : k < l.length) : ss true (l.take (k + 1)) = ss true (l.take k) + wt k * (l.getD k 0).toNat := by
  have hl : (l.take k).length = k := by rw [List.length_take]; omega
  rw [List.take_succ_eq_append_getElem h, ss_append, hl]
  have e : l.getD k 0 = l[k] := by simp [h]
  rw [e]
  unfold wt
  by_cases hk : k % 2 = 0
  · rw [if_pos hk, hk]; simp [ss]
  · rw [if_neg hk, show k % 2 = 1 by omega]; simp [ss]
def fold (n : Nat) : Nat := if n = 0 then 0 else (n - 1) % 65535 + 1
theorem fold_small {n : Nat} (h : n < 65536) : fold n = n := by
  unfold fold; split <;> omega
theorem fold_step {n : Nat} (h : 65536 ≤ n) : fold (n % 65536 + n / 65536) = fold n := by
  unfold fold
  rw [if_neg (by omega), if_neg (by omega)]
  congr 1
  have e : n - 1 = (n % 65536 + n / 65536 - 1) + 65535 * (n / 65536) := by omega
  rw [e, Nat.add_mul_mod_self_left]
theorem fold_lt (n : Nat) : fold n < 65536 := by unfold fold; split <;> omega
/-- The sum over the addresses and the bytes. -/
def total (l : List UInt8) (src dst : Nat) : Nat := ss true (be 8 (src * 4294967296 + dst) ++ be 2 6 ++ be 2 l.length ++ l)
def csum (l : List UInt8) (src dst : Nat) : Nat := 65535 - fold (total l src dst)
theorem total_eq (l : List UInt8) (src dst : Nat) : total l src dst = ss true (be 8 (src * 4294967296 + dst) ++ be 2 6 ++ be 2 l.length) + ss true l := by
  unfold total
  rw [ss_even _ _ (by simp [be_length])]
theorem total_pos (l : List UInt8) (src dst : Nat) : 0 < total l src dst := by
  rw [total_eq, List.append_assoc, ss_even _ _ (by simp [be_length]), ss_even _ _ (by simp [be_length])]
  have : ss true (be 2 6) = 6 := by decide
  omega
theorem csum_zero {l : List UInt8} {src dst : Nat} : csum l src dst = 0 ↔ total l src dst % 65535 = 0 := by
  have h := total_pos l src dst
  unfold csum fold
  rw [if_neg (by omega)]
  omega
theorem ss_two (c : Nat) (h : c < 65536) : ss true (be 2 c) = c := by
  simp only [be, List.nil_append, List.cons_append, ss, toNat_mod]
  omega
theorem csum_filled (A R : List UInt8) (src dst : Nat) (hA : A.length % 2 = 0) : csum (A ++ be 2 (csum (A ++ [0, 0] ++ R) src dst) ++ R) src dst = 0 := by
  have hlt : csum (A ++ [0, 0] ++ R) src dst < 65536 := by unfold csum; omega
  have hpos := total_pos (A ++ [0, 0] ++ R) src dst
  have key : total (A ++ be 2 (csum (A ++ [0, 0] ++ R) src dst) ++ R) src dst = total (A ++ [0, 0] ++ R) src dst + csum (A ++ [0, 0] ++ R) src dst := by
    rw [total_eq (A ++ be 2 _ ++ R), total_eq (A ++ [0, 0] ++ R)]
    have e1 : (A ++ be 2 (csum (A ++ [0, 0] ++ R) src dst) ++ R).length = (A ++ [0, 0] ++ R).length := by simp [be_length]; omega
    rw [e1, List.append_assoc A (be 2 _), ss_even A _ hA, ss_even (be 2 _) R (by rw [be_length]), ss_two _ hlt]
    rw [show ss true (A ++ [0, 0] ++ R) = ss true A + ss true R by rw [List.append_assoc, ss_even A _ hA, ss_even [0, 0] R rfl]; simp [ss]]
    omega
  have hc : csum (A ++ [0, 0] ++ R) src dst = 65535 - fold (total (A ++ [0, 0] ++ R) src dst) := rfl
  rw [csum_zero, key, hc]
  generalize total (A ++ [0, 0] ++ R) src dst = T at *
  unfold fold
  rw [if_neg (by omega)]
  omega
theorem csum_turned (l : List UInt8) (i : Nat) (c : UInt8) (src dst : Nat) (hi : i < l.length) (h0 : csum l src dst = 0) (hc : c ≠ l.getD i 0) : csum (l.set i c) src dst ≠ 0 := by
  intro h1
  rw [csum_zero] at h0 h1
  rw [total_eq] at h0 h1
  rw [List.length_set] at h1
  have hs := ss_set true l i c hi
  simp only [if_true] at hs
  have hw : wt i = 256 ∨ wt i = 1 := by unfold wt; split <;> simp
  have h2 := c.toNat_lt
  have h3 := (l.getD i 0).toNat_lt
  have h4 : c.toNat ≠ (l.getD i 0).toNat := fun h => hc (UInt8.toNat_inj.1 h)
  generalize ss true (be 8 (src * 4294967296 + dst) ++ be 2 6 ++ be 2 l.length) = Z at *
  generalize c.toNat = x at *
  generalize (l.getD i 0).toNat = y at *
  rcases hw with hw | hw <;> rw [hw] at hs <;> omega

/-- A segment. -/
structure Sg where
  src : Nat
  dst : Nat
  seq : Nat
  ack : Nat
  flags : Nat
  wnd : Nat
  mss : Nat
  has : Bool
  scale : Nat
  data : List UInt8
structure Sg.Fits (g : Sg) : Prop where
  src : g.src < 65536
  dst : g.dst < 65536
  seq : g.seq < 4294967296
  ack : g.ack < 4294967296
  flags : g.flags < 256
  wnd : g.wnd < 65536
  mss : g.mss < 65536
  scale : g.scale < 256
def syn (f : Nat) : Bool := f / 2 % 2 == 1
def fin (f : Nat) : Bool := f % 2 == 1
def Sg.extra (g : Sg) : Bool := g.mss != 0 || g.has
def Sg.bad (g : Sg) : Bool := decide (14 < g.scale) || (g.scale != 0 && !g.has) || (g.extra && !syn g.flags)
def Sg.opts (g : Sg) : List UInt8 := (if g.mss ≠ 0 then [2, 4] ++ be 2 g.mss else []) ++ (if g.has then [1, 3, 3, UInt8.ofNat g.scale] else [])
def Sg.headA (g : Sg) : List UInt8 := be 4 (g.src * 65536 + g.dst) ++ be 8 (g.seq * 4294967296 + g.ack) ++ [UInt8.ofNat ((20 + g.opts.length) * 4), UInt8.ofNat g.flags] ++ be 2 g.wnd
def Sg.tail (g : Sg) : List UInt8 := [0, 0] ++ g.opts ++ g.data
def Sg.bytes (g : Sg) (src dst : Nat) : List UInt8 := g.headA ++ be 2 (csum (g.headA ++ [0, 0] ++ g.tail) src dst) ++ g.tail
/-- What options told. -/
structure O where
  mss : Nat
  has : Bool
  scale : Nat
def O.one (o : O) (s : List UInt8) : Option O :=
  if s.getD 0 0 = 2 then (if s.length = 4 then some { o with mss := val (s.drop 2) } else none)
  else if s.getD 0 0 = 3 then (if s.length = 3 then some { o with has := true, scale := min (s.getD 2 0).toNat 14 } else none)
  else some o
def readO (s : List UInt8) (o : O) : Option O :=
  if s.length = 0 then some o
  else if s.getD 0 0 = 0 then some o
  else if s.getD 0 0 = 1 then readO (s.drop 1) o
  else if s.length < 2 ∨ s.getD 1 0 < 2 ∨ s.length < (s.getD 1 0).toNat then none
  else match o.one (s.take (s.getD 1 0).toNat) with
    | none => none
    | some o' => readO (s.drop (s.getD 1 0).toNat) o'
termination_by s.length
decreasing_by
  · rw [List.length_drop]; omega
  · rename_i h _ _ h2
    have : 2 ≤ (s.getD 1 0).toNat := by
      have h3 : ¬ s.getD 1 0 < 2 := fun h => h2 (.inr (.inl h))
      rw [UInt8.lt_iff_toNat_lt] at h3
      exact Nat.not_lt.1 h3
    rw [List.length_drop]; omega
/-- What is read of bytes: a segment, or an error's number. -/
def dec (l : List UInt8) (src dst : Nat) : Sg ⊕ Nat :=
  if l.length < 20 then .inr 7
  else if (l.getD 12 0).toNat / 16 * 4 < 20 ∨ l.length < (l.getD 12 0).toNat / 16 * 4 then .inr 8
  else if csum l src dst ≠ 0 then .inr 180
  else match readO ((l.take ((l.getD 12 0).toNat / 16 * 4)).drop 20) ⟨0, false, 0⟩ with
    | none => .inr 8
    | some o =>
      let f := (l.getD 13 0).toNat
      .inl ⟨val (l.take 2), val ((l.drop 2).take 2), val ((l.drop 4).take 4), val ((l.drop 8).take 4), f, val ((l.drop 14).take 2), if syn f then o.mss else 0, syn f && o.has, if syn f then o.scale else 0, l.drop ((l.getD 12 0).toNat / 16 * 4)⟩

theorem readO_nil (o : O) : readO [] o = some o := by rw [readO]; simp
theorem readO_one (r : List UInt8) (o : O) : readO (1 :: r) o = readO r o := by
  rw [readO]; simp
theorem readO_opt (k n : UInt8) (p r : List UInt8) (o : O) (hk : 2 ≤ k.toNat) (hn : n.toNat = p.length + 2) : readO (k :: n :: (p ++ r)) o = (match o.one (k :: n :: p) with | none => none | some o' => readO r o') := by
  rw [readO]
  have h0 : ¬ k = 0 := by rintro rfl; simp at hk
  have h1 : ¬ k = 1 := by rintro rfl; simp at hk
  have h2 : ¬ n < 2 := by rw [UInt8.lt_iff_toNat_lt, hn, show (2 : UInt8).toNat = 2 from rfl]; omega
  have ht : (k :: n :: (p ++ r)).take n.toNat = k :: n :: p := by rw [hn]; simp
  have hd : (k :: n :: (p ++ r)).drop n.toNat = r := by rw [hn]; simp
  have h3 : ¬ ((k :: n :: (p ++ r)).length < 2 ∨ (k :: n :: (p ++ r)).getD 1 0 < 2 ∨ (k :: n :: (p ++ r)).length < ((k :: n :: (p ++ r)).getD 1 0).toNat) := by
    simp only [List.getD_cons_succ, List.getD_cons_zero, List.length_cons, List.length_append]
    rintro (h | h | h)
    · omega
    · exact h2 h
    · omega
  have g0 : (k :: n :: (p ++ r)).getD 0 0 = k := rfl
  have g1 : (k :: n :: (p ++ r)).getD 1 0 = n := rfl
  rw [if_neg (by simp), g0, if_neg h0, if_neg h1, if_neg h3, g1, ht, hd]
theorem readO_opts (g : Sg) (hf : g.Fits) (hb : g.bad = false) : readO g.opts ⟨0, false, 0⟩ = some ⟨g.mss, g.has, g.scale⟩ := by
  have hs : ¬ 14 < g.scale := by intro h; simp [Sg.bad, h] at hb
  have hz : g.has = false → g.scale = 0 := by intro h; simp [Sg.bad, h] at hb; omega
  have hm := hf.mss
  have hval : val (be 2 g.mss) = g.mss := val_be_lt (by omega)
  have hsc : (UInt8.ofNat g.scale).toNat = g.scale := by rw [UInt8.toNat_ofNat']; omega
  have part2 : ∀ o : O, readO (if g.has then [1, 3, 3, UInt8.ofNat g.scale] else []) o = some (if g.has then { o with has := true, scale := g.scale } else o) := by
    intro o
    cases h : g.has
    · simp [readO_nil]
    · simp only [if_true]
      rw [readO_one, show ([3, 3, UInt8.ofNat g.scale] : List UInt8) = 3 :: 3 :: ([UInt8.ofNat g.scale] ++ []) from rfl, readO_opt _ _ _ _ _ (by decide) (by simp)]
      have ho1 : O.one o [3, 3, UInt8.ofNat g.scale] = some { o with has := true, scale := g.scale } := by
        unfold O.one
        rw [if_neg (by simp), if_pos (by simp), if_pos (by simp), show ([3, 3, UInt8.ofNat g.scale] : List UInt8).getD 2 0 = UInt8.ofNat g.scale from rfl, hsc, Nat.min_eq_left (by omega)]
      rw [ho1]
      simp only [readO_nil]
  unfold Sg.opts
  by_cases hm0 : g.mss = 0
  · rw [if_neg (by simp [hm0]), List.nil_append, part2]
    cases h : g.has
    · simp [hz h, hm0]
    · simp [hm0]
  · rw [if_pos hm0, show ([2, 4] ++ be 2 g.mss ++ (if g.has then [1, 3, 3, UInt8.ofNat g.scale] else []) : List UInt8) = 2 :: 4 :: (be 2 g.mss ++ (if g.has then [1, 3, 3, UInt8.ofNat g.scale] else [])) from rfl,
      readO_opt _ _ _ _ _ (by decide) (by rw [be_length]; rfl)]
    have ho : O.one ⟨0, false, 0⟩ (2 :: 4 :: be 2 g.mss) = some ⟨g.mss, false, 0⟩ := by
      unfold O.one
      rw [if_pos (by simp), if_pos (by simp [be_length]), show (2 :: 4 :: be 2 g.mss : List UInt8).drop 2 = be 2 g.mss from rfl, hval]
    rw [ho]
    simp only []
    rw [part2]
    cases h : g.has
    · simp [hz h]
    · simp

theorem opts_len (g : Sg) : g.opts.length = 0 ∨ g.opts.length = 4 ∨ g.opts.length = 8 := by
  unfold Sg.opts
  split <;> split <;> simp [be_length]
theorem headA_len (g : Sg) : g.headA.length = 16 := by simp [Sg.headA, be_length]
theorem bytes_len (g : Sg) (src dst : Nat) : (g.bytes src dst).length = 20 + g.opts.length + g.data.length := by
  simp [Sg.bytes, Sg.tail, headA_len, be_length]; omega
theorem csum_bytes (g : Sg) (src dst : Nat) : csum (g.bytes src dst) src dst = 0 := csum_filled _ _ _ _ (by rw [headA_len])
theorem be_take (k x y : Nat) (n : Nat) (hy : y < 256 ^ k) : be (n + k) (x * 256 ^ k + y) = be n x ++ be k y := by
  induction k generalizing y with
  | zero => simp at hy; subst hy; simp [be]
  | succ k ih =>
    rw [← Nat.add_assoc, be, be, ← List.append_assoc, ← ih (y / 256) (by rw [Nat.pow_succ] at hy; omega)]
    have e1 : (x * 256 ^ (k + 1) + y) / 256 = x * 256 ^ k + y / 256 := by rw [Nat.pow_succ, ← Nat.mul_assoc]; omega
    have e2 : (x * 256 ^ (k + 1) + y) % 256 = y % 256 := by rw [Nat.pow_succ, ← Nat.mul_assoc]; omega
    rw [e1, e2]
theorem bytes_split (g : Sg) (hf : g.Fits) (src dst : Nat) : ∃ c : List UInt8, c.length = 2 ∧ g.bytes src dst = be 2 g.src ++ be 2 g.dst ++ be 4 g.seq ++ be 4 g.ack ++ [UInt8.ofNat ((20 + g.opts.length) * 4), UInt8.ofNat g.flags] ++ be 2 g.wnd ++ c ++ [0, 0] ++ g.opts ++ g.data := by
  refine ⟨be 2 (csum (g.headA ++ [0, 0] ++ g.tail) src dst), be_length _ _, ?_⟩
  unfold Sg.bytes Sg.tail
  have e1 : be 4 (g.src * 65536 + g.dst) = be 2 g.src ++ be 2 g.dst := be_take 2 g.src g.dst 2 hf.dst
  have e2 : be 8 (g.seq * 4294967296 + g.ack) = be 4 g.seq ++ be 4 g.ack := be_take 4 g.seq g.ack 4 hf.ack
  generalize be 2 (csum (g.headA ++ [0, 0] ++ ([0, 0] ++ g.opts ++ g.data)) src dst) = c
  unfold Sg.headA
  rw [e1, e2]
  simp only [List.append_assoc]
theorem dec_bytes (g : Sg) (hf : g.Fits) (hb : g.bad = false) (src dst : Nat) : dec (g.bytes src dst) src dst = .inl g := by
  have hc := csum_bytes g src dst
  have hl := bytes_len g src dst
  obtain ⟨c, hcl, he⟩ := bytes_split g hf src dst
  have hr := readO_opts g hf hb
  have ho := opts_len g
  have hfl := hf.flags
  have v1 : val (be 2 g.src) = g.src := val_be_lt hf.src
  have v2 : val (be 2 g.dst) = g.dst := val_be_lt hf.dst
  have v3 : val (be 4 g.seq) = g.seq := val_be_lt hf.seq
  have v4 : val (be 4 g.ack) = g.ack := val_be_lt hf.ack
  have v5 : val (be 2 g.wnd) = g.wnd := val_be_lt hf.wnd
  have b1 := be_length 2 g.src
  have b2 := be_length 2 g.dst
  have b3 := be_length 4 g.seq
  have b4 := be_length 4 g.ack
  have b5 := be_length 2 g.wnd
  have hx12 : (UInt8.ofNat ((20 + g.opts.length) * 4)).toNat / 16 * 4 = 20 + g.opts.length := by rw [UInt8.toNat_ofNat']; omega
  have hx13 : (UInt8.ofNat g.flags).toNat = g.flags := by rw [UInt8.toNat_ofNat']; omega
  generalize hB : g.bytes src dst = B at *
  generalize be 2 g.src = s1 at *
  generalize be 2 g.dst = s2 at *
  generalize be 4 g.seq = s3 at *
  generalize be 4 g.ack = s4 at *
  generalize be 2 g.wnd = s5 at *
  generalize UInt8.ofNat ((20 + g.opts.length) * 4) = x12 at *
  generalize UInt8.ofNat g.flags = x13 at *
  generalize hO : g.opts = Os at *
  match s1, s2, s3, s4, s5, c, b1, b2, b3, b4, b5, hcl with
  | [a0, a1], [a2, a3], [a4, a5, a6, a7], [a8, a9, a10, a11], [a14, a15], [a16, a17], _, _, _, _, _, _ =>
    simp only [List.cons_append, List.nil_append] at he
    have g12 : B.getD 12 0 = x12 := by rw [he]; rfl
    have g13 : B.getD 13 0 = x13 := by rw [he]; rfl
    unfold dec
    rw [if_neg (by omega), g12, g13, hx12, if_neg (by omega), if_neg (by simp [hc])]
    have t1 : (B.take (20 + Os.length)).drop 20 = Os := by
      rw [he, Nat.add_comm]
      simp
    have t2 : B.drop (20 + Os.length) = g.data := by
      rw [he, Nat.add_comm]
      simp
    rw [t1, hr, t2, hx13]
    have d1 : B.take 2 = [a0, a1] := by rw [he]; rfl
    have d2 : (B.drop 2).take 2 = [a2, a3] := by rw [he]; rfl
    have d3 : (B.drop 4).take 4 = [a4, a5, a6, a7] := by rw [he]; rfl
    have d4 : (B.drop 8).take 4 = [a8, a9, a10, a11] := by rw [he]; rfl
    have d5 : (B.drop 14).take 2 = [a14, a15] := by rw [he]; rfl
    simp only [d1, d2, d3, d4, d5, v1, v2, v3, v4, v5]
    have hsyn : syn g.flags = false → g.mss = 0 ∧ g.has = false ∧ g.scale = 0 := by
      intro h
      simp [Sg.bad, Sg.extra, h] at hb
      refine ⟨by omega, hb.2.2, ?_⟩
      apply Classical.byContradiction
      intro h0
      have := hb.1.2 h0
      rw [hb.2.2] at this
      cases this
    cases h : syn g.flags
    · obtain ⟨h1, h2, h3⟩ := hsyn h
      cases g; simp_all
    · cases g; simp_all
theorem dec_sum {l : List UInt8} {src dst : Nat} {g : Sg} (h : dec l src dst = .inl g) : csum l src dst = 0 := by
  unfold dec at h
  split at h
  · cases h
  · split at h
    · cases h
    · split at h
      · cases h
      · rename_i hc; exact Decidable.of_not_not hc
end Go.Proofs.Ytidkbphdihlbaaa.SG
