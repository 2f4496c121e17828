/- Plain: how the document's reduce goes, pass by pass. -/
import Derived.Test.YtoaihbmicdbaiaaNumR1
namespace Go.Proofs.Ytoaihbmicdbaiaa
namespace DG

/-- What a word may be that something is added to. -/
def mW : Nat := 18446741874686296064
theorem carr_bound (l : List Nat) (hM : All mW l) (k : Nat) (hk : k ≤ l.length) : (carr B30 l k).2 ≤ 34359738368 := by
  induction k with
  | zero => exact Nat.zero_le _
  | succ k ih =>
    have h1 := ih (by omega)
    have h2 := carr_getD (B := B30) (by decide) l k (by omega)
    have h3 := hM.getD (j := k) (by omega)
    show ((carr B30 l k).1.getD k 0 + (carr B30 l k).2) / B30 ≤ _
    rw [h2]
    unfold mW at h3
    generalize (carr B30 l k).2 = c at *
    unfold B30
    omega
theorem carr_all (l : List Nat) (hM : All mW l) (k : Nat) : All mW (carr B30 l k).1 := by
  induction k with
  | zero => exact hM
  | succ k ih => exact All.set ih _ (Nat.lt_of_lt_of_le (Nat.mod_lt _ (by decide)) (by decide))
def itR (l : List Nat) : Nat → List Nat
  | 0 => l
  | k + 1 => passR (itR l k)
def itT (l : List Nat) : Nat → List Nat
  | 0 => l
  | k + 1 => passT (itT l k)
theorem val_mod_step {v : Nat} (h : v < B30 ^ 19) : foldR v < B30 ^ 19 := by
  have e : B30 ^ 19 = 3864537523017258344695351890931987344298927329706434998657235251451519142289560424536193766581922577962463616031502177177365078661042987655742908673467080748696980814823424 := by decide
  rw [e] at h ⊢
  unfold foldR
  omega
theorem itR_spec (l : List Nat) (hl : l.length = 19) (hM : All mW l) (hv : val B30 l < B30 ^ 19) (k : Nat) : (itR l k).length = 19 ∧ All mW (itR l k) ∧ val B30 (itR l k) < B30 ^ 19 := by
  induction k with
  | zero => exact ⟨hl, hM, hv⟩
  | succ k ih =>
    obtain ⟨h1, h2, h3⟩ := ih
    obtain ⟨g1, g2, g3⟩ := passR_spec _ h1 h3
    exact ⟨g1, g2.mono (by decide), by show val B30 (passR (itR l k)) < _; rw [g3]; exact val_mod_step h3⟩
theorem passT_all (l : List Nat) (hl : l.length = 19) (hM : All mW l) : All mW (passT l) := by
  have hc := carr_all l hM 9
  have hb := carr_bound l hM 9 (by omega)
  have hcl := carr_len (B := B30) l 9
  obtain ⟨_, h2, _⟩ := carr_spec (B := B30) (by decide) l 9 (by omega)
  unfold passT
  generalize (carr B30 l 9).1 = c at *
  generalize (carr B30 l 9).2 = cr at *
  have h8 : c.getD 8 0 < 1073741824 := by
    have := h2.getD (j := 8) (by rw [List.length_take]; omega)
    simpa [List.getD_eq_getElem?_getD, B30] using this
  have h0 : c.getD 0 0 < 1073741824 := by
    have := h2.getD (j := 0) (by rw [List.length_take]; omega)
    simpa [List.getD_eq_getElem?_getD, B30] using this
  simp only []
  have h00 : (c.set 8 (c.getD 8 0 % 32768)).getD 0 0 = c.getD 0 0 := by simp only [List.getD_eq_getElem?_getD]; rw [List.getElem?_set_ne (by omega)]
  rw [h00]
  refine All.set (All.set hc _ ?_) _ ?_
  · unfold mW; omega
  · unfold mW; omega
theorem itT_spec (l : List Nat) (hl : l.length = 19) (hM : All mW l) (k : Nat) : (itT l k).length = 19 ∧ All mW (itT l k) := by
  induction k with
  | zero => exact ⟨hl, hM⟩
  | succ k ih => exact ⟨(passT_spec _ ih.1).1, passT_all _ ih.1 ih.2⟩
theorem redList_it (l : List Nat) : redList l = (itT (itR l 3) 3).take 9 := rfl
/-- The facts for one pass of the second kind. -/
theorem passT_facts (l : List Nat) (hl : l.length = 19) (hM : All mW l) : (carr B30 l 9).1.getD 8 0 < 1073741824 ∧ (carr B30 l 9).1.getD 0 0 < 1073741824 := by
  obtain ⟨_, h2, _⟩ := carr_spec (B := B30) (by decide) l 9 (by omega)
  have hcl := carr_len (B := B30) l 9
  generalize (carr B30 l 9).1 = c at *
  constructor
  · have := h2.getD (j := 8) (by rw [List.length_take]; omega)
    simpa [List.getD_eq_getElem?_getD, B30] using this
  · have := h2.getD (j := 0) (by rw [List.length_take]; omega)
    simpa [List.getD_eq_getElem?_getD, B30] using this
theorem fld_facts (l : List Nat) (hl : l.length = 19) (ha : All B30 l) (k : Nat) (hk : k < 10) : (fld l k).getD k 0 < 1073741824 ∧ (fld l k).getD (9 + k) 0 < 1073741824 := by
  obtain ⟨h1, h2, _, _⟩ := fld_spec l hl ha k (by omega)
  have hlen := fld_len l k
  constructor
  · have := h2.getD (j := 0) (by simp; omega)
    simpa [List.getD_eq_getElem?_getD, B30] using this
  · rw [drop_getD h1 (Nat.le_refl _)]
    exact ha.getD (by omega)
end DG

open Go.RowKit DG
theorem or15 (a b : Nat) (ha : a ≤ 34359738368) (hb : b < 1073741824) : bits .or .u64 ((a : Int) * 32768) ((b : Int) / 32768) = ((a * 32768 + b / 32768 : Nat) : Int) := by
  rw [show ((a : Int) * 32768) = ((a * 32768 : Nat) : Int) by omega, show ((b : Int) / 32768) = ((b / 32768 : Nat) : Int) by omega, u64_or_nat _ _ (by omega) (by omega), show a * 32768 = a * 2 ^ 15 from rfl, nat_join 15 _ _ (Nat.mul_mod_left _ _) (by omega)]
theorem and15 (x : Nat) (hx : x < 18446744073709551616) : bits .and .u64 (x : Int) 32767 = ((x % 32768 : Nat) : Int) := by
  rw [show (32767 : Int) = ((32767 : Nat) : Int) from rfl, u64_and_nat _ _ hx (by decide), show (32767 : Nat) = 2 ^ 15 - 1 from rfl, Nat.and_two_pow_sub_one_eq_mod]

end Go.Proofs.Ytoaihbmicdbaiaa
