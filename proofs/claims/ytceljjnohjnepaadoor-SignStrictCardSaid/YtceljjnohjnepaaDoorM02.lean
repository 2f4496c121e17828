/- Plain laws of rows of digits: which is less, differences, sums with carries, products. The plain laws of the document's numbers: how rows of digits of 30 bits are made less. The walks of the numbers: Small, mask, Select, plus. A region that draws its order, whose operations read and whose calls leave all that stood as it was: one walk in the order of the text. A whole row by value: read out of a block, written into it, handed back. Whole values in memory: loads and stores of a row as one step, told by what its block holds. Rows of numbers in memory. Four words, and nine digits, as one value. The walks of the document's numbers: Prime, Less, Minus. Plain: how the document's reduce goes, pass by pass. A region that draws its order, whose first operations read and call (what stood stays), and whose last ones come in one order alone. The walk of the document's reduce. -/
import Derived.Test.YtceljjnohjnepaaDoorM01
import Derived.Deep.RegionHeld3
import Derived.Deep.MidRow
import Derived.Deep.WholeRow
import Derived.Deep.Cut
import Derived.StillTail
import Derived.Deep.LoopGhost
namespace Go.Proofs.YtceljjnohjnepaaDoor
namespace DG
variable {B : Nat}

set_option maxRecDepth 100000 in
theorem getD_at {l : List Nat} {k : Nat} (h : k < l.length) : l.getD k 0 = l[k] := by simp [h]
set_option maxRecDepth 100000 in
theorem val_split (l : List Nat) (k : Nat) (hk : k < l.length) : val B l = val B (l.take k) + B ^ k * (l.getD k 0 + B * val B (l.drop (k + 1))) := by
  have h : l = l.take k ++ (l.getD k 0 :: l.drop (k + 1)) := by
    rw [getD_at hk, ← List.drop_eq_getElem_cons hk, List.take_append_drop]
  conv => lhs; rw [h]
  rw [val_append, List.length_take, Nat.min_eq_left (by omega)]
  rfl
set_option maxRecDepth 100000 in
theorem val_cut (l : List Nat) (k : Nat) (hk : k ≤ l.length) : val B l = val B (l.take k) + B ^ k * val B (l.drop k) := by
  conv => lhs; rw [← List.take_append_drop k l]
  rw [val_append, List.length_take, Nat.min_eq_left hk]
set_option maxRecDepth 100000 in
theorem All.take {l : List Nat} (h : All B l) (k : Nat) : All B (l.take k) := fun x hx => h x (List.mem_of_mem_take hx)
set_option maxRecDepth 100000 in
theorem All.drop {l : List Nat} (h : All B l) (k : Nat) : All B (l.drop k) := fun x hx => h x (List.mem_of_mem_drop hx)
set_option maxRecDepth 100000 in
theorem All.mono {B C : Nat} {l : List Nat} (h : All B l) (hB : B ≤ C) : All C l := fun x hx => Nat.lt_of_lt_of_le (h x hx) hB
set_option maxRecDepth 100000 in
theorem All.set {B : Nat} {l : List Nat} (h : All B l) (j : Nat) {v : Nat} (hv : v < B) : All B (l.set j v) := fun x hx => by
  rcases List.mem_or_eq_of_mem_set hx with h1 | h1
  · exact h x h1
  · rw [h1]; exact hv
set_option maxRecDepth 100000 in
theorem all_replicate (k : Nat) (h : 0 < B) : All B (List.replicate k 0) := fun x hx => by rw [List.eq_of_mem_replicate hx]; exact h
set_option maxRecDepth 100000 in
theorem val_take_lt {l : List Nat} (h : All B l) {k : Nat} (hk : k ≤ l.length) : val B (l.take k) < B ^ k := by
  have := val_lt (h.take k)
  rwa [List.length_take, Nat.min_eq_left hk] at this
set_option maxRecDepth 100000 in
theorem less_at {a b : List Nat} (ha : All B a) (hl : a.length = b.length) {k : Nat} (hk : k < a.length) (hd : a.drop (k + 1) = b.drop (k + 1)) (hlt : a.getD k 0 < b.getD k 0) : val B a < val B b := by
  rw [val_split a k hk, val_split b k (by omega), hd]
  have h1 := val_take_lt ha (k := k) (by omega)
  have h2 : B ^ k * (a.getD k 0 + B * val B (b.drop (k + 1)) + 1) ≤ B ^ k * (b.getD k 0 + B * val B (b.drop (k + 1))) := Nat.mul_le_mul_left _ (by omega)
  rw [Nat.mul_add, Nat.mul_one] at h2
  omega
set_option maxRecDepth 100000 in
theorem less_iff {a b : List Nat} (ha : All B a) (hb : All B b) (hl : a.length = b.length) {k : Nat} (hk : k < a.length) (hd : a.drop (k + 1) = b.drop (k + 1)) (hne : a.getD k 0 ≠ b.getD k 0) :
    decide (a.getD k 0 < b.getD k 0) = decide (val B a < val B b) := by
  rcases Nat.lt_or_gt_of_ne hne with h | h
  · rw [decide_eq_true h, decide_eq_true (less_at ha hl hk hd h)]
  · have := less_at hb hl.symm (by omega) hd.symm h
    rw [decide_eq_false (by omega), decide_eq_false (by omega)]
set_option maxRecDepth 100000 in
theorem drop_step {a b : List Nat} {k : Nat} (hk : k < a.length) (hl : a.length = b.length) (hd : a.drop (k + 1) = b.drop (k + 1)) (he : a.getD k 0 = b.getD k 0) : a.drop k = b.drop k := by
  rw [List.drop_eq_getElem_cons hk, List.drop_eq_getElem_cons (by omega : k < b.length), hd]
  rw [getD_at hk, getD_at (by omega)] at he
  rw [he]
set_option maxRecDepth 100000 in
theorem minus_step {c b : List Nat} {k x r r' A : Nat} (hk : k < c.length)
    (h : val B c + val B (b.take k) = A + r * B ^ k) (hkb : k < b.length) (hx : x + b.getD k 0 + r = c.getD k 0 + r' * B) :
    val B (c.set k x) + val B (b.take (k + 1)) = A + r' * B ^ (k + 1) := by
  have h1 := val_set (B := B) hk x
  have h2 : val B (b.take (k + 1)) = val B (b.take k) + b.getD k 0 * B ^ k := by
    rw [List.take_succ_eq_append_getElem hkb, val_append, List.length_take, Nat.min_eq_left (by omega), getD_at hkb]
    simp [val, Nat.mul_comm]
  have h3 : (x + b.getD k 0 + r) * B ^ k = (c.getD k 0 + r' * B) * B ^ k := by rw [hx]
  rw [Nat.add_mul, Nat.add_mul, Nat.add_mul, Nat.mul_assoc, ← Nat.pow_succ'] at h3
  rw [h2]
  rw [Nat.succ_eq_add_one] at h3
  omega
set_option maxRecDepth 100000 in
theorem minus_end {c b : List Nat} {r A n : Nat} (hc : All B c) (hn : c.length = n) (hb : val B b ≤ A) (_hA : A < B ^ n) (h : val B c + val B b = A + r * B ^ n) (_hbn : All B b) (_hbl : b.length = n) : c = digs B (A - val B b) n := by
  have h1 := val_lt hc
  rw [hn] at h1
  have hr : r = 0 := by
    rcases Nat.eq_zero_or_pos r with h0 | h0
    · exact h0
    · have : 1 * B ^ n ≤ r * B ^ n := Nat.mul_le_mul_right _ h0
      omega
  subst hr
  have hv : val B c = A - val B b := by omega
  rw [← hv, ← hn, digs_val hc]
set_option maxRecDepth 100000 in
theorem val_take_succ (l : List Nat) (k : Nat) (h : k < l.length) : val B (l.take (k + 1)) = val B (l.take k) + l.getD k 0 * B ^ k := by
  rw [List.take_succ_eq_append_getElem h, val_append]
  simp [val, Nat.min_eq_left (Nat.le_of_lt h), h]
  rw [Nat.mul_comm]
set_option maxRecDepth 100000 in
/-- One word of a product: the row of words behind it. -/
theorem mul_step {wl : List Nat} {j v y x c c' V0 t i k : Nat} (hj : j < wl.length) (hjk : j = i + k) (h : val B wl + c * B ^ j = V0 + x * t * B ^ i)
    (he : v + B * c' = x * y + wl.getD j 0 + c) :
    val B (wl.set j v) + c' * B ^ (j + 1) = V0 + x * (t + y * B ^ k) * B ^ i := by
  have hs := val_set (B := B) hj v
  have e1 : (v + B * c') * B ^ j = (x * y + wl.getD j 0 + c) * B ^ j := by rw [he]
  have e2 : x * (t + y * B ^ k) * B ^ i = x * t * B ^ i + x * y * B ^ j := by
    rw [Nat.mul_add, Nat.add_mul, hjk, Nat.pow_add, Nat.mul_comm (B ^ i), ← Nat.mul_assoc x y, Nat.mul_assoc (x * y)]
  rw [Nat.add_mul, Nat.add_mul, Nat.add_mul] at e1
  rw [e2, Nat.pow_succ B j]
  have e3 : c' * (B ^ j * B) = B * c' * B ^ j := by rw [Nat.mul_comm (B ^ j), ← Nat.mul_assoc, Nat.mul_comm c']
  rw [e3]
  omega
set_option maxRecDepth 100000 in
theorem carry_step {wl : List Nat} {j v c c' V : Nat} (hj : j < wl.length) (h : val B wl + c * B ^ j = V) (he : v + B * c' = wl.getD j 0 + c) :
    val B (wl.set j v) + c' * B ^ (j + 1) = V := by
  have hs := val_set (B := B) hj v
  have e1 : (v + B * c') * B ^ j = (wl.getD j 0 + c) * B ^ j := by rw [he]
  rw [Nat.add_mul, Nat.add_mul] at e1
  rw [Nat.pow_succ B j, show c' * (B ^ j * B) = B * c' * B ^ j by rw [Nat.mul_comm (B ^ j), ← Nat.mul_assoc, Nat.mul_comm c']]
  omega
set_option maxRecDepth 100000 in
theorem no_carry {v c V j : Nat} (hB : V < B ^ j) (h : v + c * B ^ j = V) : c = 0 ∧ v = V := by
  rcases Nat.eq_zero_or_pos c with h0 | h0
  · subst h0; simp at h; exact ⟨rfl, h⟩
  · have : 1 * B ^ j ≤ c * B ^ j := Nat.mul_le_mul_right _ h0
    omega
set_option maxRecDepth 100000 in
theorem add_at {l : List Nat} {j x : Nat} (h : j < l.length) : val B (l.set j (l.getD j 0 + x)) = val B l + x * B ^ j := by
  have := val_set (B := B) h (l.getD j 0 + x)
  rw [Nat.add_mul] at this
  omega
set_option maxRecDepth 100000 in
theorem take_set_succ {l : List Nat} {j x : Nat} (h : j < l.length) (B : Nat) : val B ((l.set j x).take (j + 1)) = val B (l.take j) + x * B ^ j := by
  rw [val_take_succ _ _ (by simpa using h)]
  congr 1
  · congr 1; exact List.take_set_of_le (Nat.le_refl _)
  · simp [h]
set_option maxRecDepth 100000 in
/-- One digit of carrying. -/
theorem carry1 {o t : List Nat} {k cr d cr' : Nat} (hk : k < o.length) (hkt : k < t.length) (h : val B (o.take k) + cr * B ^ k = val B (t.take k)) (hx : d + cr' * B = t.getD k 0 + cr) :
    val B ((o.set k d).take (k + 1)) + cr' * B ^ (k + 1) = val B (t.take (k + 1)) := by
  rw [take_set_succ hk, val_take_succ t _ hkt, ← h]
  have h3 : (d + cr' * B) * B ^ k = (t.getD k 0 + cr) * B ^ k := by rw [hx]
  rw [Nat.add_mul, Nat.add_mul, Nat.mul_assoc, ← Nat.pow_succ', Nat.succ_eq_add_one] at h3
  omega
set_option maxRecDepth 100000 in
theorem drop_set_succ {c l : List Nat} {k d : Nat} (h : c.drop k = l.drop k) : (c.set k d).drop (k + 1) = l.drop (k + 1) := by
  have h2 : c.drop (k + 1) = l.drop (k + 1) := by rw [← List.drop_drop, ← List.drop_drop, h]
  rw [List.drop_set, if_pos (by omega), h2]
set_option maxRecDepth 100000 in
theorem drop_set_lt {c : List Nat} {k j d : Nat} (h : j < k) : (c.set j d).drop k = c.drop k := by
  rw [List.drop_set, if_pos h]
set_option maxRecDepth 100000 in
theorem drop_getD {c l : List Nat} {k j : Nat} (h : c.drop k = l.drop k) (hj : k ≤ j) : c.getD j 0 = l.getD j 0 := by
  have := congrArg (fun (m : List Nat) => m.getD (j - k) 0) h
  simpa [List.getD_eq_getElem?_getD, show k + (j - k) = j by omega] using this
set_option maxRecDepth 100000 in
theorem All.take_set {l : List Nat} {k d : Nat} (h : All B (l.take k)) (hd : d < B) : All B ((l.set k d).take (k + 1)) := by
  intro x hx
  rw [List.mem_take_iff_getElem] at hx
  obtain ⟨i, hi, rfl⟩ := hx
  rw [List.length_set] at hi
  rw [List.getElem_set]
  split
  · exact hd
  · exact h _ (List.mem_take_iff_getElem.2 ⟨i, by omega, rfl⟩)

/-- Carrying: so many digits done, and what is carried. -/
def carr (B : Nat) (l : List Nat) : Nat → List Nat × Nat
  | 0 => (l, 0)
  | k + 1 => ((carr B l k).1.set k (((carr B l k).1.getD k 0 + (carr B l k).2) % B), ((carr B l k).1.getD k 0 + (carr B l k).2) / B)
set_option maxRecDepth 100000 in
theorem carr_len (l : List Nat) (k : Nat) : (carr B l k).1.length = l.length := by
  induction k with
  | zero => rfl
  | succ k ih => simp [carr, ih]
set_option maxRecDepth 100000 in
theorem carr_spec (hB : 0 < B) (l : List Nat) (k : Nat) (hk : k ≤ l.length) : (carr B l k).1.drop k = l.drop k ∧ All B ((carr B l k).1.take k) ∧ val B ((carr B l k).1.take k) + (carr B l k).2 * B ^ k = val B (l.take k) := by
  induction k with
  | zero => exact ⟨rfl, fun x hx => by simp at hx, by simp [carr]⟩
  | succ k ih =>
    obtain ⟨h1, h2, h3⟩ := ih (by omega)
    have hl := carr_len (B := B) l k
    refine ⟨drop_set_succ h1, h2.take_set (Nat.mod_lt _ hB), ?_⟩
    refine carry1 (by omega) (by omega) h3 ?_
    rw [← drop_getD h1 (Nat.le_refl _), Nat.mul_comm]
    exact Nat.mod_add_div _ _
set_option maxRecDepth 100000 in
theorem carr_getD (hB : 0 < B) (l : List Nat) (k : Nat) (hk : k ≤ l.length) : (carr B l k).1.getD k 0 = l.getD k 0 := drop_getD (carr_spec hB l k hk).1 (Nat.le_refl _)
end DG
end Go.Proofs.YtceljjnohjnepaaDoor

namespace Go.Proofs.YtceljjnohjnepaaDoor
namespace DG
open DG

def B30 : Nat := 1073741824
/-- The upper digits, folded into the lower ones. -/
def fld (l : List Nat) : Nat → List Nat
  | 0 => l
  | k + 1 => ((fld l k).set k ((fld l k).getD k 0 + (fld l k).getD (9 + k) 0 * 622592)).set (9 + k) 0
set_option maxRecDepth 100000 in
theorem fld_len (l : List Nat) (k : Nat) : (fld l k).length = l.length := by
  induction k with
  | zero => rfl
  | succ k ih => simp [fld, ih]
set_option maxRecDepth 100000 in
theorem fld_spec (l : List Nat) (hl : l.length = 19) (ha : All B30 l) (k : Nat) (hk : k ≤ 10) :
    (fld l k).drop (9 + k) = l.drop (9 + k) ∧ All B30 ((fld l k).drop k) ∧ All 669000000000000 (fld l k) ∧ val B30 (fld l k) + val B30 ((l.drop 9).take k) * B30 ^ 9 = val B30 l + 622592 * val B30 ((l.drop 9).take k) := by
  induction k with
  | zero => exact ⟨rfl, by simpa [fld] using ha, ha.mono (by decide), by simp [fld, val]⟩
  | succ k ih =>
    obtain ⟨h1, h2, h3, h4⟩ := ih (by omega)
    have hlen := fld_len l k
    generalize hc : fld l k = c at *
    have hcl : c.length = 19 := by omega
    have hg : c.getD (9 + k) 0 = l.getD (9 + k) 0 := drop_getD h1 (Nat.le_refl _)
    have hx : c.getD k 0 < B30 := by
      have := h2.getD (j := 0) (by simp; omega)
      simpa [List.getD_eq_getElem?_getD] using this
    have hy : l.getD (9 + k) 0 < B30 := ha.getD (by omega)
    have hd : (l.drop 9).getD k 0 = l.getD (9 + k) 0 := by simp [List.getD_eq_getElem?_getD]
    simp only [fld, hc]
    rw [hg]
    generalize hye : l.getD (9 + k) 0 = y at *
    generalize hxe : c.getD k 0 = x at *
    unfold B30 at hx hy
    have hlt : x + y * 622592 < 669000000000000 := by omega
    refine ⟨?_, ?_, ?_, ?_⟩
    · rw [show 9 + (k + 1) = (9 + k) + 1 by omega]
      exact drop_set_succ (by rw [drop_set_lt (by omega), h1])
    · have h5 : All B30 ((c.set k (x + y * 622592)).drop (k + 1)) := by
        rw [drop_set_lt (by omega), ← List.drop_drop]
        exact h2.drop 1
      rw [List.drop_set, if_neg (by omega)]
      exact h5.set _ (by decide)
    · exact (h3.set _ hlt).set _ (by decide)
    · rw [val_take_succ _ _ (by simp; omega), hd]
      have s1 := val_set (B := B30) (l := c) (j := k) (by omega) (x + y * 622592)
      have s2 := val_set (B := B30) (l := c.set k (x + y * 622592)) (j := 9 + k) (by simp; omega) 0
      have e1 : (c.set k (x + y * 622592)).getD (9 + k) 0 = y := by
        simp only [List.getD_eq_getElem?_getD]; rw [List.getElem?_set_ne (by omega)]; rw [← List.getD_eq_getElem?_getD, hg]
      rw [e1] at s2
      rw [hxe] at s1
      rw [Nat.add_mul] at s1
      rw [Nat.zero_mul, Nat.pow_add] at s2
      generalize val B30 ((c.set k (x + y * 622592)).set (9 + k) 0) = v2 at *
      generalize val B30 (c.set k (x + y * 622592)) = v1 at *
      generalize val B30 (List.take k (List.drop 9 l)) = t at *
      rw [Nat.add_mul, Nat.mul_add]
      have e2 : y * B30 ^ k * B30 ^ 9 = y * (B30 ^ 9 * B30 ^ k) := by rw [Nat.mul_assoc, Nat.mul_comm (B30 ^ k)]
      have e3 : y * 622592 * B30 ^ k = 622592 * (y * B30 ^ k) := by rw [Nat.mul_comm y, Nat.mul_assoc]
      rw [e2]
      rw [e3] at s1
      omega

def foldR (v : Nat) : Nat := v % 1897137590064188545819787018382342682267975428761855001222473056385648716020711424 + 622592 * (v / 1897137590064188545819787018382342682267975428761855001222473056385648716020711424)
def foldT (v : Nat) : Nat := v % 57896044618658097711785492504343953926634992332820282019728792003956564819968 + 19 * (v / 57896044618658097711785492504343953926634992332820282019728792003956564819968)
set_option maxRecDepth 100000 in
theorem foldR_mod (v : Nat) : foldR v % pP = v % pP := by
  unfold foldR
  have h := Nat.div_add_mod v 1897137590064188545819787018382342682267975428761855001222473056385648716020711424
  have e : v = (v % 1897137590064188545819787018382342682267975428761855001222473056385648716020711424 + 622592 * (v / 1897137590064188545819787018382342682267975428761855001222473056385648716020711424)) + pP * (32768 * (v / 1897137590064188545819787018382342682267975428761855001222473056385648716020711424)) := by
    unfold pP; omega
  conv => rhs; rw [e]
  rw [Nat.add_mul_mod_self_left]
set_option maxRecDepth 100000 in
theorem foldT_mod (v : Nat) : foldT v % pP = v % pP := by
  unfold foldT
  have e : v = (v % 57896044618658097711785492504343953926634992332820282019728792003956564819968 + 19 * (v / 57896044618658097711785492504343953926634992332820282019728792003956564819968)) + pP * (v / 57896044618658097711785492504343953926634992332820282019728792003956564819968) := by
    unfold pP; omega
  conv => rhs; rw [e]
  rw [Nat.add_mul_mod_self_left]
set_option maxRecDepth 100000 in
theorem B30_9 : B30 ^ 9 = 1897137590064188545819787018382342682267975428761855001222473056385648716020711424 := by decide

/-- One pass over all digits. -/
def passR (l : List Nat) : List Nat := fld (carr B30 l 19).1 10
set_option maxRecDepth 100000 in
theorem passR_spec (l : List Nat) (hl : l.length = 19) (hv : val B30 l < B30 ^ 19) : (passR l).length = 19 ∧ All 669000000000000 (passR l) ∧ val B30 (passR l) = foldR (val B30 l) := by
  obtain ⟨_, h2, h3⟩ := carr_spec (B := B30) (by decide) l 19 (by omega)
  have hcl := carr_len (B := B30) l 19
  rw [List.take_of_length_le (by omega)] at h2 h3
  rw [List.take_of_length_le (by omega)] at h3
  obtain ⟨_, h4⟩ := no_carry hv h3
  obtain ⟨_, _, g3, g4⟩ := fld_spec (carr B30 l 19).1 (by omega) h2 10 (by omega)
  refine ⟨by unfold passR; rw [fld_len]; omega, g3, ?_⟩
  rw [List.take_of_length_le (by rw [List.length_drop]; omega), h4] at g4
  have hc := val_cut (B := B30) (carr B30 l 19).1 9 (by omega)
  have hlt := val_take_lt (B := B30) h2 (k := 9) (by omega)
  rw [h4] at hc
  unfold passR foldR
  rw [B30_9] at *
  generalize val B30 (fld (carr B30 l 19).1 10) = x at *
  generalize val B30 (List.drop 9 (carr B30 l 19).1) = h at *
  generalize val B30 (List.take 9 (carr B30 l 19).1) = t at *
  generalize val B30 l = v at *
  have e1 : v / 1897137590064188545819787018382342682267975428761855001222473056385648716020711424 = h := by omega
  have e2 : v % 1897137590064188545819787018382342682267975428761855001222473056385648716020711424 = t := by omega
  rw [e1, e2]
  omega

/-- One pass over the nine digits: the top ones folded. -/
def passT (l : List Nat) : List Nat :=
  let c := (carr B30 l 9).1
  let q := (carr B30 l 9).2 * 32768 + c.getD 8 0 / 32768
  let d := c.set 8 (c.getD 8 0 % 32768)
  d.set 0 (d.getD 0 0 + 19 * q)
set_option maxRecDepth 100000 in
theorem passT_spec (l : List Nat) (hl : l.length = 19) : (passT l).length = 19 ∧ (passT l).getD 0 0 = val B30 (l.take 9) % B30 + 19 * (val B30 (l.take 9) / 57896044618658097711785492504343953926634992332820282019728792003956564819968) ∧ val B30 ((passT l).take 9) = foldT (val B30 (l.take 9)) ∧ All B30 (((passT l).take 9).drop 1) ∧ (passT l).getD 8 0 < 32768 := by
  obtain ⟨h1, h2, h3⟩ := carr_spec (B := B30) (by decide) l 9 (by omega)
  have hcl := carr_len (B := B30) l 9
  unfold passT
  generalize (carr B30 l 9).1 = c at *
  generalize (carr B30 l 9).2 = cr at *
  have hc9 : c.take 9 = c.take 8 ++ [c.getD 8 0] := by rw [getD_at (by omega), ← List.take_succ_eq_append_getElem (by omega)]
  have ht8 := val_take_lt (B := B30) h2 (k := 8) (by rw [List.length_take]; omega)
  rw [List.take_take, show min 8 9 = 8 from rfl] at ht8
  have hx8 : c.getD 8 0 < B30 := h2 _ (by rw [hc9]; simp)
  simp only []
  generalize hx : c.getD 8 0 = x at *
  have hd9 : (c.set 8 (x % 32768)).take 9 = c.take 8 ++ [x % 32768] := by
    rw [List.take_succ_eq_append_getElem (by simp; omega), List.take_set_of_le (by omega)]
    simp
  have h0 : (c.set 8 (x % 32768)).getD 0 0 = c.getD 0 0 := by simp only [List.getD_eq_getElem?_getD]; rw [List.getElem?_set_ne (by omega)]
  refine ⟨by simp; omega, ?_, ?_, ?_, ?_⟩
  · rw [h0]
    have e1 : c.getD 0 0 = val B30 (l.take 9) % B30 := by
      rw [← h3]
      have := val_digit (B := B30) h2 0 (by rw [List.length_take]; omega)
      rw [Nat.pow_zero, Nat.div_one] at this
      rw [show cr * B30 ^ 9 = (cr * B30 ^ 8) * B30 by rw [Nat.mul_assoc, ← Nat.pow_succ], Nat.add_mul_mod_self_right, this]
      simp [List.getD_eq_getElem?_getD]
    have e2 : val B30 (l.take 9) / 57896044618658097711785492504343953926634992332820282019728792003956564819968 = cr * 32768 + x / 32768 := by
      rw [hc9, val_append, List.length_take, Nat.min_eq_left (by omega), B30_9] at h3
      simp only [val, Nat.mul_zero, Nat.add_zero] at h3
      generalize val B30 (List.take 8 c) = t at *
      generalize val B30 (List.take 9 l) = V at *
      have p8 : B30 ^ 8 = 1766847064778384329583297500742918515827483896875618958121606201292619776 := by decide
      rw [p8] at ht8 h3
      clear hc9 hd9 h0 h1 h2 e1
      unfold B30 at hx8
      omega
    rw [← e1, e2]
    simp [show 0 < c.length by omega]
  · rw [List.take_set, hd9]
    have s := val_set (B := B30) (l := c.take 8 ++ [x % 32768]) (j := 0) (by simp) ((c.set 8 (x % 32768)).getD 0 0 + 19 * (cr * 32768 + x / 32768))
    have e0 : (c.take 8 ++ [x % 32768]).getD 0 0 = c.getD 0 0 := by
      rw [← hd9, ← h0]; simp [List.getD_eq_getElem?_getD]
    rw [e0] at s
    rw [h0] at s ⊢
    rw [val_append, List.length_take, Nat.min_eq_left (by omega)] at s
    rw [hc9, val_append, List.length_take, Nat.min_eq_left (by omega)] at h3
    simp only [val, Nat.pow_zero, Nat.mul_one, Nat.mul_zero, Nat.add_zero] at s h3
    generalize val B30 (List.set (List.take 8 c ++ [x % 32768]) 0 (c.getD 0 0 + 19 * (cr * 32768 + x / 32768))) = v2 at *
    generalize val B30 (List.take 8 c) = t at *
    generalize val B30 (List.take 9 l) = V at *
    unfold foldT
    rw [B30_9] at h3
    have p8 : B30 ^ 8 = 1766847064778384329583297500742918515827483896875618958121606201292619776 := by decide
    rw [p8] at ht8 s h3
    clear hc9 hd9 h0 e0 h1 h2
    unfold B30 at hx8
    omega
  · rw [List.take_set, List.drop_set, if_pos (by omega), hd9, List.drop_append_of_le_length (by rw [List.length_take]; omega)]
    intro y hy
    rcases List.mem_append.1 hy with h | h
    · refine h2 y ?_
      rw [hc9]
      exact List.mem_append_left _ (List.mem_of_mem_drop h)
    · simp only [List.mem_singleton] at h; rw [h]; exact Nat.lt_of_lt_of_le (Nat.mod_lt _ (by decide)) (by decide)
  · simp only [List.getD_eq_getElem?_getD]
    rw [List.getElem?_set_ne (by omega)]
    simp [show 8 < c.length by omega, Nat.mod_lt]

set_option maxRecDepth 100000 in
theorem passesV {v : Nat} (h : v < 1897137590064188545819787018382342682267975428761855001222473056385648716020711424) : foldT (foldT v) < 57896044618658097711785492504343953926634992332820282019728792003956564819968 + 19 := by
  unfold foldT; omega
def redList (l : List Nat) : List Nat := (passT (passT (passT (passR (passR (passR l)))))).take 9
set_option maxRecDepth 100000 in
theorem passes {v : Nat} (h : v < 3864537523017258344695351890931987344298927329706434998657235251451519142289560424536193766581922577962463616031502177177365078661042987655742908673467080748696980814823424) :
    foldR (foldR (foldR v)) < 1897137590064188545819787018382342682267975428761855001222473056385648716020711424 ∧ foldR v < 3864537523017258344695351890931987344298927329706434998657235251451519142289560424536193766581922577962463616031502177177365078661042987655742908673467080748696980814823424 ∧ foldR (foldR v) < 3864537523017258344695351890931987344298927329706434998657235251451519142289560424536193766581922577962463616031502177177365078661042987655742908673467080748696980814823424 := by
  unfold foldR; omega
set_option maxRecDepth 100000 in
theorem passesT {v : Nat} (h : v < 1897137590064188545819787018382342682267975428761855001222473056385648716020711424) : foldT (foldT (foldT v)) < 57896044618658097711785492504343953926634992332820282019728792003956564819968 := by
  unfold foldT; omega
set_option maxRecDepth 100000 in
theorem redList_spec (l : List Nat) (hl : l.length = 19) (hv : val B30 l < B30 ^ 19) : ∃ u, redList l = digs B30 u 9 ∧ u < 57896044618658097711785492504343953926634992332820282019728792003956564819968 ∧ u % pP = val B30 l % pP := by
  have p19 : B30 ^ 19 = 3864537523017258344695351890931987344298927329706434998657235251451519142289560424536193766581922577962463616031502177177365078661042987655742908673467080748696980814823424 := by decide
  obtain ⟨a1, _, a3⟩ := passR_spec l hl hv
  obtain ⟨g1, g2, g3⟩ := passes (v := val B30 l) (by rw [← p19]; exact hv)
  obtain ⟨b1, _, b3⟩ := passR_spec (passR l) a1 (by rw [a3, p19]; exact g2)
  obtain ⟨c1, _, c3⟩ := passR_spec (passR (passR l)) b1 (by rw [b3, a3, p19]; exact g3)
  rw [b3, a3] at c3
  have hc := val_cut (B := B30) (passR (passR (passR l))) 9 (by omega)
  unfold redList
  have c4 : val B30 ((passR (passR (passR l))).take 9) = foldR (foldR (foldR (val B30 l))) := by
    rw [c3, B30_9] at hc
    generalize foldR (foldR (foldR (val B30 l))) = f at *
    generalize val B30 (List.drop 9 (passR (passR (passR l)))) = h at *
    omega
  have m3 : foldR (foldR (foldR (val B30 l))) % pP = val B30 l % pP := by rw [foldR_mod, foldR_mod, foldR_mod]
  generalize passR (passR (passR l)) = r at *
  obtain ⟨d1, _, d3, _, _⟩ := passT_spec r c1
  obtain ⟨e1, _, e3, _, _⟩ := passT_spec (passT r) d1
  obtain ⟨f1, f2, f3, f4, f5⟩ := passT_spec (passT (passT r)) e1
  rw [e3, d3, c4] at f3 f2
  have hb := passesT g1
  refine ⟨foldT (foldT (foldT (foldR (foldR (foldR (val B30 l)))))), ?_, hb, by rw [foldT_mod, foldT_mod, foldT_mod, m3]⟩
  generalize foldR (foldR (foldR (val B30 l))) = v at *
  have hV := passesV g1
  generalize passT (passT (passT r)) = t at *
  rw [← f3]
  have hall : All B30 (t.take 9) := by
    have h0 : t.take 9 = t.getD 0 0 :: (t.take 9).drop 1 := by
      match t, f1 with
      | x :: t, _ => simp
    rw [h0]
    intro y hy
    rcases List.mem_cons.1 hy with h | h
    · rw [h, f2]
      generalize foldT (foldT v) = V at *
      unfold B30
      omega
    · exact f4 y h
  have := digs_val hall
  rw [List.length_take, f1] at this
  exact this.symm
end DG
end Go.Proofs.YtceljjnohjnepaaDoor

namespace Go.Proofs.YtceljjnohjnepaaDoor
open Go.RowKit DG

set_option maxRecDepth 100000 in
set_option maxHeartbeats 400000 in
theorem small_any (n : Nat) (W : World) (h : n < 4294967296) : Calls Tryd.prog 34 #[.int .u32 (n : Int)] W fun e w' => e = .returned (.agg (quad n)) ∧ Below W.heap.size W w' := by
  have hq : quad n = #[.int .u64 (n : Int), .int .u64 0, .int .u64 0, .int .u64 0] := by unfold quad; congr 1; simp only [List.cons.injEq, Value.int.injEq, true_and, and_true]; omega
  rw [hq]
  go_enter Tryd.func34, Tryd.ntmps34
  go_wp2_with fail
  exact bodyPost_ret (v := .agg #[.int .u64 (n : Int), .int .u64 0, .int .u64 0, .int .u64 0]) (by simp [results, Tryd.results34, go_sem]) rfl ⟨rfl, below_new _⟩

def maskN (b : Bool) : Int := if b then 18446744073709551615 else 0
set_option maxRecDepth 100000 in
theorem mask_any (b : Bool) (W : World) : Calls Tryd.prog 58 #[.bool b] W fun e w' => e = .returned (.int .u64 (maskN b)) ∧ W = w' := by
  cases b
  · go_enter Tryd.func58, Tryd.ntmps58
    go_wp2
    go_ret
    exact ⟨rfl, rfl⟩
  · go_enter Tryd.func58, Tryd.ntmps58
    go_wp2
    go_ret
    exact ⟨rfl, rfl⟩

set_option maxRecDepth 100000 in
set_option maxHeartbeats 1000000 in
theorem plus_any (a n : Nat) (W : World) (ha : a < p2) (hn : n ≤ 10000) : Calls Tryd.prog 48 #[.agg (quad a), .int .u64 (n : Int)] W fun e w' => e = .returned (.agg (quad (plusN a n))) ∧ Below W.heap.size W w' := by
  obtain ⟨a0, a1, a2, a3, hq, hw4⟩ := quad_w4 a ha
  have HW4 := hid hw4
  obtain ⟨h0, h1, h2, h3, h0', h1', h2', h3', _⟩ := hw4
  rw [hq]
  clear hq
  go_enter Tryd.func48, Tryd.ntmps48
  go_wp2_with (refine wpList_add64 rfl rfl _ _ _ rfl rfl rfl (by omega) (by omega) (by omega) (by omega) (by omega) ?_; intro d0 e0 da0 db0 ea0 eb0 pa0 pb0)
  refine wp_loop_rounds 4 ?_
  rw [rounds_succ]
  go_wp2_with (refine wpList_add64 rfl rfl _ _ _ rfl rfl rfl (by omega) (by omega) (by omega) (by omega) (by omega) ?_; intro d1 e1 da1 db1 ea1 eb1 pa1 pb1)
  rw [rounds_succ]
  go_wp2_with (refine wpList_add64 rfl rfl _ _ _ rfl rfl rfl (by omega) (by omega) (by omega) (by omega) (by omega) ?_; intro d2 e2 da2 db2 ea2 eb2 pa2 pb2)
  rw [rounds_succ]
  go_wp2_with (refine wpList_add64 rfl rfl _ _ _ rfl rfl rfl (by omega) (by omega) (by omega) (by omega) (by omega) ?_; intro d3 e3 da3 db3 ea3 eb3 pa3 pb3)
  rw [rounds_succ]
  obtain ⟨x1, x2, W4'⟩ := plus_law HW4.out hn da0 db0 da1 db1 da2 db2 da3 db3 ea3 eb3 pa0 pb0 pa1 pb1 pa2 pb2 pa3 pb3
  have HW := hid W4'
  clear W4' HW4 h0 h1 h2 h3 h0' h1' h2' h3' pa0 pb0 pa1 pb1 pa2 pb2 pa3 pb3
  go_wp2_with fail
  refine bodyPost_ret (v := .agg #[.int .u64 (d0 + 38 * e3), .int .u64 d1, .int .u64 d2, .int .u64 d3]) (by simp [results, Tryd.results48, go_sem]) rfl ⟨by rw [HW.out.quad], ?_⟩
  exact below_alloc (below_new _) _

set_option maxRecDepth 100000 in
theorem add64_run (x y c : Int) (hx : 0 ≤ x ∧ x < 18446744073709551616) (hy : 0 ≤ y ∧ y < 18446744073709551616) (hc : 0 ≤ c ∧ c ≤ 1) : ∃ d e : Int,
    (∀ w, (callFunc 31 #[.int .u64 x, .int .u64 y, .int .u64 c]).run Tryd.prog w = .ok (.value (.tuple #[.int .u64 d, .int .u64 e])) w) ∧
    0 ≤ d ∧ d < 18446744073709551616 ∧ 0 ≤ e ∧ e ≤ 1 ∧ d + 18446744073709551616 * e ≤ x + y + c ∧ x + y + c ≤ d + 18446744073709551616 * e :=
  ⟨_, _, fun w => call_add64 x y c hx.1 hy.1 hc.1 hc.2 w, by omega, by omega, by omega, by omega, by omega, by omega⟩

end Go.Proofs.YtceljjnohjnepaaDoor

namespace Go.Proofs.YtceljjnohjnepaaDoor
open Go Go.RowKit

/-- A world in which all that stood in w is as it was. -/
structure Later (w : World) where
  w' : World
  h : Below w.heap.size w w'

instance (w : World) : Nonempty (Later w) := ⟨⟨w, Below.refl _ _⟩⟩

variable {P : Program}
set_option maxRecDepth 100000 in
theorem wp_region_later {id : Nat} {Q : Exit → Act → World → Prop} {a : Act} {w : World} {l : List Oper} (hm : P.follows .mixedOrders = true) (hB : Region.lexB .any l.toArray = true)
    (h : wpQuiet P l.toArray (fun w' => ∃ x : Later w, w' = x.w') (fun a' => ∀ w', (∃ x : Later w, w' = x.w') → Q .normal a' w') l a) : (Code.region id l.toArray true).wp P Q a w :=
  wp_region_quiet (C := fun w' => ∃ x : Later w, w' = x.w') hm hB ⟨⟨w.drew, (Below.refl _ _).drew⟩, rfl⟩ (by simpa using h)
set_option maxRecDepth 100000 in
theorem calls_later {f : FuncId} {args : Array Value} {w : World} {x : Later w} {v : Value} (h : Calls P f args x.w' fun e w' => e = .returned v ∧ Below x.w'.heap.size x.w' w') :
    Calls P f args x.w' fun e w'' => e = .returned v ∧ ∃ y : Later w, w'' = y.w' :=
  h.mono fun _ _ ⟨he, hb⟩ => ⟨he, ⟨⟨_, below_to x.h hb⟩, rfl⟩⟩
set_option maxRecDepth 100000 in
theorem later_block {w : World} {b : Nat} {o : Obj} (h : w.heap[b]? = some o) (x : Later w) : x.w'.heap[b]? = some o := (x.h.block b (lt_blk h)).trans h
set_option maxRecDepth 100000 in
theorem later_cell {w : World} {p : Addr} {v : Value} (c : w.cell? p = some v) (x : Later w) : x.w'.cell? p = some v := (x.h.cell (p := p) (World.block_lt_of_cell? w p c)).trans c

set_option maxRecDepth 100000 in
theorem keepB {w w' : World} {b : Nat} {o : Obj} (hb : Below w.heap.size w w') (h : w.heap[b]? = some o) : w'.heap[b]? = some o := (hb.block b (lt_blk h)).trans h

set_option maxRecDepth 100000 in
/-- A load of a whole row. -/
theorem quiet_load {C : World → Prop} {K : Act → Prop} {a : Act} {o : Oper} (ty : TypeId) (x : Operand) (ho : o.op = .load ty x) {p : Value} (hp : a.eval x = p) {v : Value}
    (h : ∀ w, C w → (Instr.loadAt ty p).run P w = .ok v w) (hk : K (a.put o.dst v)) : o.quiet P a C K := by
  refine ⟨v, fun w hw => ?_, hk⟩
  unfold Oper.quietAt execOp
  simp only [ho, hp, Sem.run_bind, Sem.run_pure, Result.andThen_ok, h w hw]
  exact ⟨rfl, rfl⟩

end Go.Proofs.YtceljjnohjnepaaDoor

namespace Go.Proofs.YtceljjnohjnepaaDoor
open Go.RowKit

section
variable {P : Program} {w : World} {b : Nat} {cs c : Array Value} {T ty : TypeId} {fz : Nat × Nat} {d : TypeDesc}
set_option maxRecDepth 100000 in
theorem cells_range (h : w.heap[b]? = some (.cells cs T fz)) : w.rangeAt b 0 cs.toList := fun j v hv => by
  rw [Nat.zero_add, cell_at h]
  simpa using hv
set_option maxRecDepth 100000 in
theorem load_row (h : w.heap[b]? = some (.cells cs T fz)) (hu : P.underlying ty = some d) (hd : d.isRow = true) (hi : (P.info? ty).map (·.size) = some cs.size) :
    (Instr.loadAt ty (.pointer (some ⟨b, 0, none⟩))).run P w = .ok (.agg cs) w := by
  have := run_loadAt_mid (P := P) w b 0 ty cs.toList d (cells_range h) hu hd (by simpa using hi)
  simpa using this
set_option maxRecDepth 100000 in
theorem setCells_row (vs : List Value) : ∀ (w : World) (b : Nat) (pre old post : List Value) (T : TypeId) (fz : Nat × Nat), w.heap[b]? = some (.cells (pre ++ old ++ post).toArray T fz) → old.length = vs.length →
    w.setCells b pre.length vs = blk w b (.cells (pre ++ vs ++ post).toArray T fz) := by
  induction vs with
  | nil =>
    intro w b pre old post T fz h hl
    have : old = [] := List.length_eq_zero_iff.1 hl
    subst this
    exact (blk_self h).symm
  | cons v vs ih =>
    intro w b pre old post T fz h hl
    match old, hl with
    | o :: old, hl =>
      have h1 := at_setCell h pre.length v
      have e : ((pre ++ (o :: old) ++ post).toArray.setIfInBounds pre.length v) = ((pre ++ [v]) ++ old ++ post).toArray := by
        rw [List.setIfInBounds_toArray]; simp
      rw [e] at h1
      have h2 := ih (w.setCell ⟨b, pre.length, none⟩ v) b (pre ++ [v]) old post T fz h1 (by simpa using hl)
      rw [List.length_append, List.length_singleton] at h2
      rw [World.setCells, h2, setCell_blk h, blk_blk]
      simp
set_option maxRecDepth 100000 in
theorem row_there {n : Nat} (h : w.heap[b]? = some (.cells c T (0, 0))) (hn : n ≤ c.size) : w.there b 0 n := fun j hj => by
  rw [Nat.zero_add, cell_at h, free_at h]
  simp; omega
set_option maxRecDepth 100000 in
theorem store_row (h : w.heap[b]? = some (.cells c T (0, 0))) (hi : (P.info? ty).map (·.size) = some cs.size) (hc : c.size = cs.size) (h1 : cs.all (·.oneCell') = true) :
    (Instr.storeAt ty (.pointer (some ⟨b, 0, none⟩)) (.agg cs)).run P w = .ok () (blk w b (.cells cs T (0, 0))) := by
  rw [run_storeAt_mid (P := P) w b 0 ty cs (row_there h (by omega)) hi h1]
  have h2 := setCells_row cs.toList w b [] c.toList [] T (0, 0) (by simpa using h) (by simp [hc])
  simp only [List.length_nil, List.nil_append, List.append_nil] at h2
  rw [h2]
set_option maxRecDepth 100000 in
theorem later_row (h : w.heap[b]? = some (.cells cs T fz)) (hu : P.underlying ty = some d) (hd : d.isRow = true) (hi : (P.info? ty).map (·.size) = some cs.size) :
    ∀ w', (∃ x : Later w, w' = x.w') → (Instr.loadAt ty (.pointer (some ⟨b, 0, none⟩))).run P w' = .ok (.agg cs) w' := by
  rintro _ ⟨x, rfl⟩; exact load_row (later_block h x) hu hd hi
end
section
variable {P : Program} {ops : Array Oper} {rest : List Oper} {op : Oper} {a : Act} {w : World} {Q : Exit → Act → World → Prop}
set_option maxRecDepth 100000 in
theorem wp_load_row (hgd : op.guard = none) (ty : TypeId) (x : Operand) (ho : op.op = .load ty x) {b : Nat} (hx : a.eval x = .pointer (some ⟨b, 0, none⟩)) {cs : Array Value} {T : TypeId} {fz : Nat × Nat} {d : TypeDesc}
    (h : w.heap[b]? = some (.cells cs T fz)) (hu : P.underlying ty = some d) (hd : d.isRow = true) (hi : (P.info? ty).map (·.size) = some cs.size)
    (k : wpList P ops Q rest (a.put op.dst (.agg cs)) w) : wpList P ops Q (op :: rest) a w := by
  refine wpList_load_mid hgd ty x ho b 0 hx cs.toList d (cells_range h) hu hd (by simpa using hi) ?_
  simpa using k
set_option maxRecDepth 100000 in
theorem opwp_load_row {K : Act → World → Prop} (ty : TypeId) (x : Operand) (ho : op.op = .load ty x) {b : Nat} (hx : a.eval x = .pointer (some ⟨b, 0, none⟩)) {cs : Array Value} {T : TypeId} {fz : Nat × Nat} {d : TypeDesc}
    (h : w.heap[b]? = some (.cells cs T fz)) (hu : P.underlying ty = some d) (hd : d.isRow = true) (hi : (P.info? ty).map (·.size) = some cs.size)
    (k : K (a.put op.dst (.agg cs)) w) : op.wp P a w K Q := by
  refine wp_load_mid ty x ho b 0 hx cs.toList d (cells_range h) hu hd (by simpa using hi) ?_
  simpa using k
set_option maxRecDepth 100000 in
theorem wp_store_row (hgd : op.guard = none) (ty : TypeId) (x y : Operand) (ho : op.op = .store ty x y) {b : Nat} (hx : a.eval x = .pointer (some ⟨b, 0, none⟩)) {cs c : Array Value} {T : TypeId} (hy : a.eval y = .agg cs)
    (h : w.heap[b]? = some (.cells c T (0, 0))) (hi : (P.info? ty).map (·.size) = some cs.size) (hc : c.size = cs.size) (h1 : cs.all (·.oneCell') = true)
    (k : wpList P ops Q rest (a.put op.dst undef) (blk w b (.cells cs T (0, 0)))) : wpList P ops Q (op :: rest) a w := by
  refine wpList_store_mid hgd ty x y ho b 0 cs hx hy (row_there h (by omega)) hi h1 ?_
  have h2 := setCells_row cs.toList w b [] c.toList [] T (0, 0) (by simpa using h) (by simp [hc])
  simp only [List.length_nil, List.nil_append, List.append_nil] at h2
  rw [h2]
  exact k
end
section
variable {P : Program} {ops : Array Oper} {rest : List Oper} {op : Oper} {a : Act} {w : World} {Q : Exit → Act → World → Prop}
set_option maxRecDepth 100000 in
theorem wp_build (hgd : op.guard = none) (t : TypeId) (parts : Array (Nat × Operand)) (ho : op.op = .build t parts) (cells : Array Value) (h : P.built t (parts.map fun (i, x) => (i, a.eval x)).toList = some cells)
    (k : wpList P ops Q rest (a.put op.dst (.agg cells)) w) : wpList P ops Q (op :: rest) a w :=
  wpList_plain hgd fun _ hK => by
    unfold Oper.wp execOp
    simp only [ho, Sem.run_bind, Sem.run_pure, Result.andThen_ok, run_build w t _ cells h]
    exact hK _ _ k
end
set_option maxRecDepth 100000 in
/-- A whole row into the block that was made last. -/
theorem store_cells_new {P : Program} (w : World) (t : TypeId) (c c' : Array Value) (hi : (P.info? t).map (·.size) = some c'.size) (ho : c.size = c'.size) (h1 : c'.all (·.oneCell') = true) :
    (storeCells ⟨w.heap.size, 0, none⟩ c'.toList).run P (w.alloc (.cells c t)) = .ok () (w.alloc (.cells c' t)) := run_storeCells_new w t c c' hi ho h1

end Go.Proofs.YtceljjnohjnepaaDoor

namespace Go.Proofs.YtceljjnohjnepaaDoor
open Go Go.RowKit

/-- What a block holds. -/
def hget (w : World) (b : Nat) : Option Obj := w.heap[b]?
set_option maxRecDepth 100000 in
theorem hget_eq (w : World) (b : Nat) : hget w b = w.heap[b]? := rfl
/-- Is each of them one cell? -/
def ones (c : Array Value) : Bool := c.toList.all (·.oneCell')
set_option maxRecDepth 100000 in
@[go_sem] theorem ones_list (l : List Value) : ones l.toArray = l.all (·.oneCell') := rfl
set_option maxRecDepth 100000 in
@[go_sem] theorem one_int (k : IntKind) (i : Int) : (Value.int k i).oneCell' = true := rfl
set_option maxRecDepth 100000 in
@[go_sem] theorem one_bool (i : Bool) : (Value.bool i).oneCell' = true := rfl
set_option maxRecDepth 100000 in
@[go_sem] theorem one_string (i : ByteArray) : (Value.string i).oneCell' = true := rfl
set_option maxRecDepth 100000 in
theorem ones_all {c : Array Value} (h : ones c = true) : c.all (·.oneCell') = true := by
  unfold ones at h
  simpa [Array.all_toList] using h
/-- A load of a whole value, under a name of its own. -/
def loadRow (t : TypeId) (p : Value) : Sem Value := Instr.loadAt t p
def storeRow (t : TypeId) (p v : Value) : Sem Unit := Instr.storeAt t p v
def stuckL (P : Program) (t : TypeId) (b : Nat) (w : World) : Result Value := (loadRow t (.pointer (some ⟨b, 0, none⟩))).run P w
def stuckS (P : Program) (t : TypeId) (b : Nat) (v : Value) (w : World) : Result Unit := (storeRow t (.pointer (some ⟨b, 0, none⟩)) v).run P w
section
variable {P : Program} {w : World} {b n : Nat} {t : TypeId} {d : TypeDesc}
set_option maxRecDepth 100000 in
theorem loadRow_run (hu : P.underlying t = some d) (hd : d.isRow = true) (hi : (P.info? t).map (·.size) = some n) (b : Nat) (w : World) :
    (loadRow t (.pointer (some ⟨b, 0, none⟩))).run P w = match hget w b with | some (.cells c _ _) => if c.size = n then .ok (.agg c) w else stuckL P t b w | _ => stuckL P t b w := by
  split
  · rename_i c T fz h
    split
    · rename_i hs; exact load_row h hu hd (by rw [hi, hs])
    · rfl
  · rfl
set_option maxRecDepth 100000 in
theorem storeRow_run (hi : (P.info? t).map (·.size) = some n) (b : Nat) (c' : Array Value) (w : World) :
    (storeRow t (.pointer (some ⟨b, 0, none⟩)) (.agg c')).run P w = match hget w b with | some (.cells c T (0, 0)) => if c.size = n then (if c'.size = n then (if ones c' = true then .ok () (blk w b (.cells c' T (0, 0))) else stuckS P t b (.agg c') w) else stuckS P t b (.agg c') w) else stuckS P t b (.agg c') w | _ => stuckS P t b (.agg c') w := by
  split
  · rename_i c T h
    split
    · rename_i hs
      split
      · rename_i hs'
        split
        · rename_i h1; exact store_row h (by rw [hi, hs']) (by rw [hs, hs']) (ones_all h1)
        · rfl
      · rfl
    · rfl
  · rfl
end
set_option maxRecDepth 100000 in
theorem results_cell_tmp {P : Program} {fn : Func} {p u : Tmp} {ty : TypeId} (h : fn.results = #[.cell p ty, .tmp u]) (tmps : Array Value) (w : World) (g : Nat) (t : TypeId) (cs : Array Value) (fr : Nat × Nat) (d : TypeDesc) (v : Value)
    (hp : tmps.getD p undef = .pointer (some ⟨g, 0, none⟩)) (hv : tmps.getD u undef = v) (hg : w.heap[g]? = some (.cells cs t fr))
    (hu : P.underlying ty = some d) (hd : (match d with | .struct _ | .array _ _ => true | _ => false) = true) (hi : (P.info? ty).map (·.size) = some cs.size) :
    (results fn tmps).run P w = .ok (.tuple #[.agg cs, v]) w := by
  have hp' : tmps[p]?.getD undef = .pointer (some ⟨g, 0, none⟩) := by simpa using hp
  have hv' : tmps[u]?.getD undef = v := by simpa using hv
  simp [results, h, hp', hv', asAddr, run_loadVar_row w g t ty cs fr d hg hu hd hi]
section
variable {w w' : World} {b k : Nat} {o o' : Obj}
set_option maxRecDepth 100000 in
@[go_sem] theorem hget_drew (w : World) (b : Nat) : hget w.drew b = hget w b := rfl
set_option maxRecDepth 100000 in
@[go_sem] theorem hget_drewN (w : World) (n b : Nat) : hget (w.drewN n) b = hget w b := rfl
set_option maxRecDepth 100000 in
@[go_sem] theorem hget_alloc (w : World) (o : Obj) (b : Nat) : hget (w.alloc o) b = if b = w.heap.size then some o else hget w b := by
  show (w.heap.push o)[b]? = _
  rw [Array.getElem?_push]; rfl
set_option maxRecDepth 100000 in
@[go_sem] theorem hget_blk (w : World) (b k : Nat) (o : Obj) : hget (blk w b o) k = if k = b then (if b < w.heap.size then some o else none) else hget w k := by
  unfold blk hget
  simp only [Array.getElem?_setIfInBounds]
  split
  · rename_i h; subst h; simp
  · rename_i h; rw [if_neg (Ne.symm h)]
set_option maxRecDepth 100000 in
@[go_sem] theorem blk_size' (w : World) (b : Nat) (o : Obj) : (blk w b o).heap.size = w.heap.size := blk_size
set_option maxRecDepth 100000 in
@[go_sem] theorem blk_cell_other (w : World) (b b' j : Nat) (o : Obj) (h : (b' = b) = False) : (blk w b o).cell? ⟨b', j, none⟩ = w.cell? ⟨b', j, none⟩ := by
  have hn : b' ≠ b := fun e => by rw [e] at h; simp at h
  exact World.cell?_of_block (blk_other (w := w) (b := b) (o := o) b' hn)
set_option maxRecDepth 100000 in
@[go_sem] theorem blk_alloc_new (w : World) (o o' : Obj) : blk (w.alloc o) w.heap.size o' = w.alloc o' := by
  unfold blk World.alloc
  congr 1
  apply Array.ext
  · simp
  · intro i h1 h2
    simp only [Array.size_setIfInBounds, Array.size_push] at h1
    rw [Array.getElem_setIfInBounds (by simpa using h1)]
    rcases Nat.lt_or_ge i w.heap.size with h | h
    · rw [if_neg (by omega), Array.getElem_push_lt h, Array.getElem_push_lt h]
    · have : i = w.heap.size := by omega
      subst this
      simp
set_option maxRecDepth 100000 in
@[go_sem] theorem ne_s2 (n : Nat) : (n = n + 1 + 1) = False := by simp; omega
set_option maxRecDepth 100000 in
@[go_sem] theorem ne_t2 (n : Nat) : (n + 1 + 1 = n) = False := by simp; omega
set_option maxRecDepth 100000 in
@[go_sem] theorem ne_s3 (n : Nat) : (n = n + 1 + 1 + 1) = False := by simp; omega
set_option maxRecDepth 100000 in
@[go_sem] theorem ne_t3 (n : Nat) : (n + 1 + 1 + 1 = n) = False := by simp; omega
set_option maxRecDepth 100000 in
@[go_sem] theorem ne_s4 (n : Nat) : (n = n + 1 + 1 + 1 + 1) = False := by simp; omega
set_option maxRecDepth 100000 in
@[go_sem] theorem ne_t4 (n : Nat) : (n + 1 + 1 + 1 + 1 = n) = False := by simp; omega
set_option maxRecDepth 100000 in
@[go_sem] theorem ne_s5 (n : Nat) : (n = n + 1 + 1 + 1 + 1 + 1) = False := by simp; omega
set_option maxRecDepth 100000 in
@[go_sem] theorem ne_t5 (n : Nat) : (n + 1 + 1 + 1 + 1 + 1 = n) = False := by simp; omega
set_option maxRecDepth 100000 in
@[go_sem] theorem ne_s6 (n : Nat) : (n = n + 1 + 1 + 1 + 1 + 1 + 1) = False := by simp; omega
set_option maxRecDepth 100000 in
@[go_sem] theorem ne_t6 (n : Nat) : (n + 1 + 1 + 1 + 1 + 1 + 1 = n) = False := by simp; omega
set_option maxRecDepth 100000 in
@[go_sem] theorem ne_s7 (n : Nat) : (n = n + 1 + 1 + 1 + 1 + 1 + 1 + 1) = False := by simp; omega
set_option maxRecDepth 100000 in
@[go_sem] theorem ne_t7 (n : Nat) : (n + 1 + 1 + 1 + 1 + 1 + 1 + 1 = n) = False := by simp; omega
set_option maxRecDepth 100000 in
@[go_sem] theorem ne_s8 (n : Nat) : (n = n + 1 + 1 + 1 + 1 + 1 + 1 + 1 + 1) = False := by simp; omega
set_option maxRecDepth 100000 in
@[go_sem] theorem ne_t8 (n : Nat) : (n + 1 + 1 + 1 + 1 + 1 + 1 + 1 + 1 = n) = False := by simp; omega
set_option maxRecDepth 100000 in
theorem hget_lt (h : hget w b = some o) : b < w.heap.size := lt_blk h
set_option maxRecDepth 100000 in
theorem hget_hid (h : Hid (hget w b = some o)) : w.heap[b]? = some o := h.out
/-- Behind a call: what stood, stands; it is not what is made next. -/
structure Kept (w : World) (b : Nat) (o : Obj) : Prop where
  get : hget w b = some o
  lt : b < w.heap.size
  ne : (b = w.heap.size) = False
  ne' : (w.heap.size = b) = False
set_option maxRecDepth 100000 in
theorem kept (h : hget w b = some o) : Kept w b o := by
  have := hget_lt h
  exact ⟨h, this, by simp; omega, by simp; omega⟩
set_option maxRecDepth 100000 in
theorem Kept.on (h : Kept w b o) (hb : Below w.heap.size w w') : Kept w' b o := kept ((hb.block b h.lt).trans h.get)
set_option maxRecDepth 100000 in
theorem Kept.later (h : Kept w b o) (x : Later w) : hget x.w' b = some o := later_block h.get x
end
end Go.Proofs.YtceljjnohjnepaaDoor

namespace Go.Proofs.YtceljjnohjnepaaDoor
open Go.RowKit

/-- Cells that hold numbers. -/
def ints (k : IntKind) (l : List Nat) : Array Value := (l.map fun (x : Nat) => Value.int k (x : Int)).toArray
set_option maxRecDepth 100000 in
theorem ints_size (k : IntKind) (l : List Nat) : (ints k l).size = l.length := by simp [ints]
set_option maxRecDepth 100000 in
theorem ints_get (k : IntKind) (l : List Nat) {j : Nat} (h : j < l.length) : (ints k l)[j]? = some (.int k ((l.getD j 0 : Nat) : Int)) := by simp [ints, h]
set_option maxRecDepth 100000 in
theorem ints_set (k : IntKind) (l : List Nat) (j v : Nat) : (ints k l).setIfInBounds j (.int k (v : Int)) = ints k (l.set j v) := by
  unfold ints
  rw [List.setIfInBounds_toArray, List.map_set]
section
variable {w : World} {b : Nat} {k : IntKind} {l : List Nat} {T : TypeId} {fz : Nat × Nat}
set_option maxRecDepth 100000 in
theorem ints_cell (h : w.heap[b]? = some (.cells (ints k l) T fz)) {j : Nat} (hj : j < l.length) : w.cell? ⟨b, j, none⟩ = some (.int k ((l.getD j 0 : Nat) : Int)) := by
  rw [cell_at h, ints_get k l hj]
set_option maxRecDepth 100000 in
theorem ints_store (h : w.heap[b]? = some (.cells (ints k l) T fz)) (j v : Nat) : (w.setCell ⟨b, j, none⟩ (.int k (v : Int))).heap[b]? = some (.cells (ints k (l.set j v)) T fz) := by
  rw [at_setCell h, ints_set]
end

open DG
set_option maxRecDepth 100000 in
theorem bytesNat_take_succ (l : List UInt8) (k : Nat) (h : k < l.length) : bytesNat (l.take (k + 1)) = bytesNat (l.take k) + l[k].toNat * 256 ^ k := by
  unfold bytesNat
  rw [List.take_succ_eq_append_getElem h, List.map_append, val_append]
  simp [val, Nat.min_eq_left (Nat.le_of_lt h)]
  rw [Nat.mul_comm]
set_option maxRecDepth 100000 in
/-- One byte more in words of eight bytes. -/
theorem word_step {n b k m : Nat} (hn : n < 256 ^ k) (hb : b < 256) (hk : k < 8 * m) :
    digs (2 ^ 64) (n + b * 256 ^ k) m = (digs (2 ^ 64) n m).set (k / 8) ((digs (2 ^ 64) n m).getD (k / 8) 0 + b * 2 ^ (8 * (k % 8))) ∧
      (digs (2 ^ 64) n m).getD (k / 8) 0 < 2 ^ (8 * (k % 8)) := by
  have hk8 : k / 8 < m := by omega
  have h256 : (256 : Nat) ^ k = (2 ^ 64) ^ (k / 8) * 2 ^ (8 * (k % 8)) := by
    rw [show (256 : Nat) = 2 ^ 8 from rfl, ← Nat.pow_mul, ← Nat.pow_mul, ← Nat.pow_add]; congr 1; omega
  have hg : (digs (2 ^ 64) n m).getD (k / 8) 0 < 2 ^ (8 * (k % 8)) := by
    rw [digs_getD n hk8]
    refine Nat.lt_of_le_of_lt (Nat.mod_le _ _) ?_
    exact Nat.div_lt_of_lt_mul (by rw [← h256]; exact hn)
  refine ⟨?_, hg⟩
  have hB : (256 : Nat) ^ (k + 1) ≤ (2 ^ 64) ^ m := by
    rw [show (256 : Nat) = 2 ^ 8 from rfl, ← Nat.pow_mul, ← Nat.pow_mul]; exact Nat.pow_le_pow_right (by decide) (by omega)
  have hle : b * 256 ^ k ≤ 255 * 256 ^ k := Nat.mul_le_mul_right _ (by omega)
  have hsum : n + b * 256 ^ k < (2 ^ 64) ^ m := by rw [Nat.pow_succ] at hB; omega
  have hn' : n < (2 ^ 64) ^ m := by omega
  refine val_inj (B := 2 ^ 64) (digs_all (by decide) _ _) ?_ (by rw [digs_length, List.length_set, digs_length]) ?_
  · intro x hx
    rcases List.mem_or_eq_of_mem_set hx with h | h
    · exact digs_all (by decide) _ _ x h
    · rw [h]
      have h1 : b * 2 ^ (8 * (k % 8)) ≤ 255 * 2 ^ (8 * (k % 8)) := Nat.mul_le_mul_right _ (by omega)
      have h2 : 256 * 2 ^ (8 * (k % 8)) ≤ 2 ^ 64 := by
        rw [show 256 * 2 ^ (8 * (k % 8)) = 2 ^ (8 + 8 * (k % 8)) by rw [Nat.pow_add]]; exact Nat.pow_le_pow_right (by decide) (by omega)
      omega
  · have hs := val_set (B := 2 ^ 64) (l := digs (2 ^ 64) n m) (j := k / 8) (by rw [digs_length]; exact hk8) ((digs (2 ^ 64) n m).getD (k / 8) 0 + b * 2 ^ (8 * (k % 8)))
    rw [val_digs, Nat.mod_eq_of_lt hn', Nat.add_mul] at hs
    rw [val_digs, Nat.mod_eq_of_lt hsum, h256]
    rw [Nat.mul_assoc, Nat.mul_comm (2 ^ (8 * (k % 8)))] at hs
    omega

end Go.Proofs.YtceljjnohjnepaaDoor

namespace Go.Proofs.YtceljjnohjnepaaDoor
open Go.RowKit DG

set_option maxRecDepth 100000 in
@[go_sem] theorem quad_size (n : Nat) : (quad n).size = 4 := rfl
set_option maxRecDepth 100000 in
@[go_sem] theorem quad_one (n : Nat) : ones (quad n) = true := rfl
/-- Nine digits. -/
def nine (n : Nat) : Array Value := ints .u64 (digs B30 n 9)
set_option maxRecDepth 100000 in
@[go_sem] theorem nine_size (n : Nat) : (nine n).size = 9 := by unfold nine; rw [ints_size, digs_length]
set_option maxRecDepth 100000 in
theorem rows_one (k : IntKind) (l : List Nat) : ones (ints k l) = true := by
  unfold ones ints
  rw [List.all_eq_true]
  intro v hv
  simp only [List.mem_map] at hv
  obtain ⟨x, _, rfl⟩ := hv
  rfl
set_option maxRecDepth 100000 in
@[go_sem] theorem nine_one (n : Nat) : ones (nine n) = true := rows_one _ _
set_option maxRecDepth 100000 in
theorem info_Elem : (Tryd.prog.info? 44).map (·.size) = some 4 := by kernel_rfl
                                                                           theorem exl_Elem {r : Operand → Value} {dst : Option Nat} {x : Operand} {t : TypeId} {pos : String} {af : Array Edge} {g : Option (Nat × Bool)} : execOp r ⟨dst, .load 44 x, t, pos, af, g⟩ = (do let v ← loadRow 44 (r x); pure (Next.value v)) := rfl
                                                                           theorem exs_Elem {r : Operand → Value} {dst : Option Nat} {x y : Operand} {t : TypeId} {pos : String} {af : Array Edge} {g : Option (Nat × Bool)} : execOp r ⟨dst, .store 44 x y, t, pos, af, g⟩ = (do storeRow 44 (r x) (r y); pure Next.skip) := rfl
                                                                           theorem ldr_Elem (b : Nat) (w : World) : (loadRow 44 (.pointer (some ⟨b, 0, none⟩))).run Tryd.prog w = match hget w b with | some (.cells c _ _) => if c.size = 4 then .ok (.agg c) w else stuckL Tryd.prog 44 b w | _ => stuckL Tryd.prog 44 b w := loadRow_run Tryd.underlying44 rfl info_Elem b w
                                                                           theorem str_Elem (b : Nat) (c' : Array Value) (w : World) : (storeRow 44 (.pointer (some ⟨b, 0, none⟩)) (.agg c')).run Tryd.prog w = match hget w b with | some (.cells c T (0, 0)) => if c.size = 4 then (if c'.size = 4 then (if ones c' = true then .ok () (blk w b (.cells c' T (0, 0))) else stuckS Tryd.prog 44 b (.agg c') w) else stuckS Tryd.prog 44 b (.agg c') w) else stuckS Tryd.prog 44 b (.agg c') w | _ => stuckS Tryd.prog 44 b (.agg c') w := storeRow_run info_Elem b c' w
set_option maxRecDepth 100000 in
/-- The zero values. -/
theorem quad0 : quad 0 = #[.int .u64 0, .int .u64 0, .int .u64 0, .int .u64 0] := rfl
set_option maxRecDepth 100000 in
theorem to_quad0 : #[.int .u64 0, .int .u64 0, .int .u64 0, .int .u64 0] = quad 0 := rfl
set_option maxRecDepth 100000 in
theorem to_nine0 : #[.int .u64 0, .int .u64 0, .int .u64 0, .int .u64 0, .int .u64 0, .int .u64 0, .int .u64 0, .int .u64 0, .int .u64 0] = nine 0 := rfl

end Go.Proofs.YtceljjnohjnepaaDoor

namespace Go.Proofs.YtceljjnohjnepaaDoor
open Go.RowKit DG



set_option maxRecDepth 100000 in
theorem prime_row : nine pP = #[.int .u64 1073741805, .int .u64 1073741823, .int .u64 1073741823, .int .u64 1073741823, .int .u64 1073741823, .int .u64 1073741823, .int .u64 1073741823, .int .u64 1073741823, .int .u64 32767] := by
  unfold nine
  rw [show digs B30 pP 9 = [1073741805, 1073741823, 1073741823, 1073741823, 1073741823, 1073741823, 1073741823, 1073741823, 32767] from by decide +kernel]
  rfl
set_option maxRecDepth 100000 in
theorem and30 (x : Nat) (hx : x < 18446744073709551616) : bits .and .u64 (x : Int) 1073741823 = ((x % 1073741824 : Nat) : Int) := by
  rw [show (1073741823 : Int) = ((1073741823 : Nat) : Int) from rfl, u64_and_nat _ _ hx (by decide), show (1073741823 : Nat) = 2 ^ 30 - 1 from rfl, Nat.and_two_pow_sub_one_eq_mod]

end Go.Proofs.YtceljjnohjnepaaDoor

namespace Go.Proofs.YtceljjnohjnepaaDoor
namespace DG

/-- What a word may be that something is added to. -/
def mW : Nat := 18446741874686296064
set_option maxRecDepth 100000 in
theorem carr_bound (l : List Nat) (hM : All mW l) (k : Nat) (hk : k ≤ l.length) : (carr B30 l k).2 ≤ 34359738368 := by
  induction k with
  | zero => exact Nat.zero_le _
  | succ k ih =>
    have h1 := ih (by omega)
    have h2 := carr_getD (B := B30) (by decide) l k (by omega)
    have h3 := hM.getD (j := k) (by omega)
    show ((carr B30 l k).1.getD k 0 + (carr B30 l k).2) / B30 ≤ _
    rw [h2]
    unfold mW at h3
    generalize (carr B30 l k).2 = c at *
    unfold B30
    omega
set_option maxRecDepth 100000 in
theorem carr_all (l : List Nat) (hM : All mW l) (k : Nat) : All mW (carr B30 l k).1 := by
  induction k with
  | zero => exact hM
  | succ k ih => exact All.set ih _ (Nat.lt_of_lt_of_le (Nat.mod_lt _ (by decide)) (by decide))
def itR (l : List Nat) : Nat → List Nat
  | 0 => l
  | k + 1 => passR (itR l k)
def itT (l : List Nat) : Nat → List Nat
  | 0 => l
  | k + 1 => passT (itT l k)
set_option maxRecDepth 100000 in
theorem val_mod_step {v : Nat} (h : v < B30 ^ 19) : foldR v < B30 ^ 19 := by
  have e : B30 ^ 19 = 3864537523017258344695351890931987344298927329706434998657235251451519142289560424536193766581922577962463616031502177177365078661042987655742908673467080748696980814823424 := by decide
  rw [e] at h ⊢
  unfold foldR
  omega
set_option maxRecDepth 100000 in
theorem itR_spec (l : List Nat) (hl : l.length = 19) (hM : All mW l) (hv : val B30 l < B30 ^ 19) (k : Nat) : (itR l k).length = 19 ∧ All mW (itR l k) ∧ val B30 (itR l k) < B30 ^ 19 := by
  induction k with
  | zero => exact ⟨hl, hM, hv⟩
  | succ k ih =>
    obtain ⟨h1, h2, h3⟩ := ih
    obtain ⟨g1, g2, g3⟩ := passR_spec _ h1 h3
    exact ⟨g1, g2.mono (by decide), by show val B30 (passR (itR l k)) < _; rw [g3]; exact val_mod_step h3⟩
set_option maxRecDepth 100000 in
theorem passT_all (l : List Nat) (hl : l.length = 19) (hM : All mW l) : All mW (passT l) := by
  have hc := carr_all l hM 9
  have hb := carr_bound l hM 9 (by omega)
  have hcl := carr_len (B := B30) l 9
  obtain ⟨_, h2, _⟩ := carr_spec (B := B30) (by decide) l 9 (by omega)
  unfold passT
  generalize (carr B30 l 9).1 = c at *
  generalize (carr B30 l 9).2 = cr at *
  have h8 : c.getD 8 0 < 1073741824 := by
    have := h2.getD (j := 8) (by rw [List.length_take]; omega)
    simpa [List.getD_eq_getElem?_getD, B30] using this
  have h0 : c.getD 0 0 < 1073741824 := by
    have := h2.getD (j := 0) (by rw [List.length_take]; omega)
    simpa [List.getD_eq_getElem?_getD, B30] using this
  simp only []
  have h00 : (c.set 8 (c.getD 8 0 % 32768)).getD 0 0 = c.getD 0 0 := by simp only [List.getD_eq_getElem?_getD]; rw [List.getElem?_set_ne (by omega)]
  rw [h00]
  refine All.set (All.set hc _ ?_) _ ?_
  · unfold mW; omega
  · unfold mW; omega
set_option maxRecDepth 100000 in
theorem itT_spec (l : List Nat) (hl : l.length = 19) (hM : All mW l) (k : Nat) : (itT l k).length = 19 ∧ All mW (itT l k) := by
  induction k with
  | zero => exact ⟨hl, hM⟩
  | succ k ih => exact ⟨(passT_spec _ ih.1).1, passT_all _ ih.1 ih.2⟩
set_option maxRecDepth 100000 in
theorem redList_it (l : List Nat) : redList l = (itT (itR l 3) 3).take 9 := rfl
set_option maxRecDepth 100000 in
/-- The facts for one pass of the second kind. -/
theorem passT_facts (l : List Nat) (hl : l.length = 19) (_hM : All mW l) : (carr B30 l 9).1.getD 8 0 < 1073741824 ∧ (carr B30 l 9).1.getD 0 0 < 1073741824 := by
  obtain ⟨_, h2, _⟩ := carr_spec (B := B30) (by decide) l 9 (by omega)
  have hcl := carr_len (B := B30) l 9
  generalize (carr B30 l 9).1 = c at *
  constructor
  · have := h2.getD (j := 8) (by rw [List.length_take]; omega)
    simpa [List.getD_eq_getElem?_getD, B30] using this
  · have := h2.getD (j := 0) (by rw [List.length_take]; omega)
    simpa [List.getD_eq_getElem?_getD, B30] using this
set_option maxRecDepth 100000 in
theorem fld_facts (l : List Nat) (hl : l.length = 19) (ha : All B30 l) (k : Nat) (hk : k < 10) : (fld l k).getD k 0 < 1073741824 ∧ (fld l k).getD (9 + k) 0 < 1073741824 := by
  obtain ⟨h1, h2, _, _⟩ := fld_spec l hl ha k (by omega)
  have hlen := fld_len l k
  constructor
  · have := h2.getD (j := 0) (by simp; omega)
    simpa [List.getD_eq_getElem?_getD, B30] using this
  · rw [drop_getD h1 (Nat.le_refl _)]
    exact ha.getD (by omega)
end DG

open Go.RowKit DG
set_option maxRecDepth 100000 in
theorem or15 (a b : Nat) (ha : a ≤ 34359738368) (hb : b < 1073741824) : bits .or .u64 ((a : Int) * 32768) ((b : Int) / 32768) = ((a * 32768 + b / 32768 : Nat) : Int) := by
  rw [show ((a : Int) * 32768) = ((a * 32768 : Nat) : Int) by omega, show ((b : Int) / 32768) = ((b / 32768 : Nat) : Int) by omega, u64_or_nat _ _ (by omega) (by omega), show a * 32768 = a * 2 ^ 15 from rfl, nat_join 15 _ _ (Nat.mul_mod_left _ _) (by omega)]
set_option maxRecDepth 100000 in
theorem and15 (x : Nat) (hx : x < 18446744073709551616) : bits .and .u64 (x : Int) 32767 = ((x % 32768 : Nat) : Int) := by
  rw [show (32767 : Int) = ((32767 : Nat) : Int) from rfl, u64_and_nat _ _ hx (by decide), show (32767 : Nat) = 2 ^ 15 - 1 from rfl, Nat.and_two_pow_sub_one_eq_mod]

end Go.Proofs.YtceljjnohjnepaaDoor

namespace Go.Proofs.YtceljjnohjnepaaDoor
open Go Go.RowKit

section
variable {P : Program} {ops : Array Oper} {md : Region.Mode} {C : World → Prop}
/-- So many operations, each below n, each quiet in the class; then L. -/
def wpAnyT (P : Program) (md : Region.Mode) (ops : Array Oper) (C : World → Prop) (n : Nat) (L : Array Bool → Act → Prop) : Nat → Array Bool → Act → Prop
  | 0, listed, a => L listed a
  | f + 1, listed, a => Region.ready md ops listed ≠ [] ∧ ∀ i ∈ Region.ready md ops listed, i < n ∧ qOp P ops C i (wpAnyT P md ops C n L f (listed.setIfInBounds i true)) a
set_option maxRecDepth 100000 in
theorem wpAny_of_headT {n g : Nat} {L : Array Bool → Act → Prop} {Q' : Exit → Act → World → Prop} (hL : ∀ listed a w, C w → L listed a → wpAny P md ops Q' g listed a w) :
    ∀ (f : Nat) (listed : Array Bool) (a : Act) (w : World), C w → wpAnyT P md ops C n L f listed a → wpAny P md ops Q' (f + g) listed a w
  | 0, listed, a, w, hw, h => by rw [Nat.zero_add]; exact hL _ _ _ hw h
  | f + 1, listed, a, w, hw, h => by
    rw [show f + 1 + g = (f + g) + 1 by omega]
    exact ⟨fun h0 => absurd h0 h.1, fun i hi => wpOp_of_qOp hw (fun a' w' hw' h' => wpAny_of_headT hL f _ a' w' hw' h') (h.2 i hi).2⟩
set_option maxRecDepth 100000 in
theorem wpAnyT_first {n i : Nat} {oi : Oper} {v : Value} {L : Array Bool → Act → Prop} (hi : ops[i]? = some oi) (hsel : ∀ (j : Nat) (o : Oper) cs b, ops[j]? = some o → o.op ≠ .select cs b)
    (hs : Region.sinkB md ops n = true) (hc : Region.chainB md ops n = true) (hn : n < ops.size) (hin : i < n)
    (hdone : ∀ listed a, L listed a → ∀ j ∈ Region.ready md ops listed, n ≤ j) :
    ∀ (f : Nat) (listed : Array Bool) (a : Act), HeadInv md ops n listed →
      (∀ j oj, ops[j]? = some oj → j ≠ i → listed.getD j true = false → (∀ e ∈ oj.after, Region.binds md e = true → e.on ≠ i) → oi.apart ops oj = true) →
      i ∈ Region.ready md ops listed → YieldsIn P ops C oi v a →
      wpAnyT P md ops C n L f (listed.setIfInBounds i true) (a.put oi.dst v) → wpAnyT P md ops C n L (f + 1) listed a := by
  intro f
  have below : ∀ {listed : Array Bool}, HeadInv md ops n listed → listed.getD i true = false → ∀ j ∈ Region.ready md ops listed, j < n := fun {listed} inv hun j hj => by
    rcases Nat.lt_or_ge j n with h | h
    · exact h
    · exact absurd hj (tail_waits hs hc hn inv _ i rfl hin hun j h)
  induction f with
  | zero =>
    intro listed a inv _ hr hy H
    have hun := (mem_ready.1 hr).1
    refine ⟨fun h => (by rw [h] at hr; cases hr), fun j hj => ⟨below inv hun j hj, ?_⟩⟩
    by_cases hji : j = i
    · subst hji; exact hy.qOp hi H
    · have := hdone _ _ H j (ready_mono hj hji)
      have := below inv hun j hj
      omega
  | succ f ih =>
    intro listed a inv hfree hr hy H
    have hun := (mem_ready.1 hr).1
    refine ⟨fun h => (by rw [h] at hr; cases hr), fun j hj => ?_⟩
    have hjn := below inv hun j hj
    refine ⟨hjn, ?_⟩
    by_cases hji : j = i
    · subst hji; exact hy.qOp hi H
    · have h1 := (H.2 j (ready_mono hj hji)).2
      obtain ⟨hjun, oj, hoj, hall⟩ := mem_ready.1 hj
      have hnot : ∀ e ∈ oj.after, Region.binds md e = true → e.on ≠ i := fun e he hb heq => by
        have h1 := hall e he hb
        rw [heq, getD_both hun] at h1
        cases h1
      have h2 := qOp_put hoj (hfree j oj hoj hji hjun hnot) (fun cs b => hsel i oi cs b hi) (fun cs b => hsel j oj cs b hoj) hy h1
      have hfree' : ∀ k ok, ops[k]? = some ok → k ≠ i → (listed.setIfInBounds j true).getD k true = false →
          (∀ e ∈ ok.after, Region.binds md e = true → e.on ≠ i) → oi.apart ops ok = true := fun k ok hk hki hun hno => by
        refine hfree k ok hk hki ?_ hno
        by_cases hjk : j = k
        · subst hjk; exact hjun
        · rw [getD_set_ne true hjk] at hun; exact hun
      refine qOp_mono (fun a' h3 => ih (listed.setIfInBounds j true) a' (inv.set hj hjn) hfree' (ready_mono hr (Ne.symm hji)) h3.1 ?_) h2
      rw [Array.setIfInBounds_comm _ _ hji]
      exact h3.2
set_option maxRecDepth 100000 in
theorem wpAnyT_lex {n g : Nat} {Lq : Act → Prop} (hsel : Region.noSelect ops = true) (hs : Region.sinkB md ops n = true) (hc : Region.chainB md ops n = true) (hn : n < ops.size) :
    ∀ (l : List Oper) (k : Nat) (listed : Array Bool) (a : Act), (∀ j, j < l.length → l[j]? = ops[k + j]?) → k + l.length = n → HeadInv md ops n listed →
    Region.lexHead md ops g l.length k listed = true → wpQuiet P ops C Lq l a →
    wpAnyT P md ops C n (fun listed' a' => Region.seqB md ops g n listed' = true ∧ Lq a') l.length listed a
  | [], k, listed, a, _, hk, _, hB, h => by
    have : k = n := by simpa using hk
    subst this
    exact ⟨by simpa [Region.lexHead] using hB, h⟩
  | o :: l, k, listed, a, hl, hk, inv, hB, h => by
    have h0 : ops[k]? = some o := by simpa using (hl 0 (by simp)).symm
    simp only [List.length_cons, Region.lexHead, Bool.and_eq_true] at hB
    obtain ⟨⟨hr, hf⟩, hB'⟩ := hB
    have hkn : k < n := by simp only [List.length_cons] at hk; omega
    have hr' : k ∈ Region.ready md ops listed := by simpa using hr
    have hst : qOp P ops C k (wpQuiet P ops C Lq l) a := by unfold qOp; simp only [h0]; exact h
    obtain ⟨v, hy, hK⟩ := yieldsIn_of_qOp h0 hst
    exact wpAnyT_first h0 (Region.noSelect_spec hsel) hs hc hn hkn (fun listed' a' hL => seqB_ready hL.1) l.length listed a inv (Region.free_spec h0 hf) hr' hy
      (wpAnyT_lex hsel hs hc hn l (k + 1) _ _ (fun j hj => by have := hl (j + 1) (by simp; omega); simpa [Nat.add_assoc, Nat.add_comm 1 j] using this) (by simp only [List.length_cons] at hk; omega) (inv.set hr' hkn) hB' hK)

set_option maxRecDepth 100000 in
/-- The law: the operations before number n read and call; those from n on come one behind the other. -/
theorem wp_region_later_tail {id : Nat} {Q : Exit → Act → World → Prop} {a : Act} {w : World} {l : List Oper} (n : Nat) (hm : P.follows .mixedOrders = true) (hB : Region.lexTailB .any l.toArray n = true)
    (h : wpQuiet P l.toArray (fun w' => ∃ x : Later w, w' = x.w') (fun a' => ∀ w', (∃ x : Later w, w' = x.w') → wpList P l.toArray Q (l.drop n) a' w') (l.take n) a) : (Code.region id l.toArray true).wp P Q a w := by
  simp only [Region.lexTailB, Bool.and_eq_true, decide_eq_true_eq] at hB
  obtain ⟨⟨⟨⟨hsel, hn⟩, hs⟩, hc⟩, hlex⟩ := hB
  have hn' : n < l.length := by simpa using hn
  have htl : (l.take n).length = n := by simp; omega
  have hdl : (l.drop n).length = l.toArray.size - n := by simp
  have inv0 : HeadInv .any l.toArray n (Array.replicate l.toArray.size false) :=
    ⟨by simp, fun j oj _ hl => (by rw [getD_replicate_false] at hl; cases hl), fun t _ ht => getD_in (by simpa using ht) (getD_replicate_false _ _)⟩
  have H := wpAnyT_lex (md := .any) (g := l.toArray.size - n) hsel hs hc hn (l.take n) 0 _ a (fun j hj => by
    have hj' : j < n := by rw [htl] at hj; exact hj
    simp [hj']) (by simpa using htl) inv0 (by rw [htl]; exact hlex) h
  refine wp_region_any hm ?_
  have := wpAny_of_headT (Q' := Q) (g := l.toArray.size - n) (fun listed a' w' hw' hL => by
    have := wpAny_of_seq (md := .any) (Q' := Q) (l.drop n) n listed a' w' (fun j => by simp [List.getElem?_drop]) (by rw [hdl]; exact hL.1) (hL.2 w' hw')
    rwa [hdl] at this) _ _ _ _ (⟨⟨w.drew, (Below.refl _ _).drew⟩, rfl⟩ : ∃ x : Later w, w.drew = x.w') H
  rw [htl, show n + (l.toArray.size - n) = l.toArray.size by omega] at this
  exact this
end

end Go.Proofs.YtceljjnohjnepaaDoor

namespace Go.Proofs.YtceljjnohjnepaaDoor
open Go.RowKit DG


attribute [local go_sem] to_nine0

set_option maxRecDepth 100000 in
theorem val_nine {v : Nat} (h : v < 1897137590064188545819787018382342682267975428761855001222473056385648716020711424) : val B30 (digs B30 v 9) = v := by
  rw [val_digs, B30_9, Nat.mod_eq_of_lt h]
end Go.Proofs.YtceljjnohjnepaaDoor
