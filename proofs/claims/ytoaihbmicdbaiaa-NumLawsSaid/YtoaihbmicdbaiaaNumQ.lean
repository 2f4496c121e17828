/- The plain laws of the document's numbers: how rows of digits of 30 bits are made less. -/
import Derived.Test.YtoaihbmicdbaiaaNumP
import Derived.Test.YtoaihbmicdbaiaaDG2
namespace Go.Proofs.Ytoaihbmicdbaiaa
namespace DG
open DG

def B30 : Nat := 1073741824
/-- The upper digits, folded into the lower ones. -/
def fld (l : List Nat) : Nat → List Nat
  | 0 => l
  | k + 1 => ((fld l k).set k ((fld l k).getD k 0 + (fld l k).getD (9 + k) 0 * 622592)).set (9 + k) 0
theorem fld_len (l : List Nat) (k : Nat) : (fld l k).length = l.length := by
  induction k with
  | zero => rfl
  | succ k ih => simp [fld, ih]
theorem fld_spec (l : List Nat) (hl : l.length = 19) (ha : All B30 l) (k : Nat) (hk : k ≤ 10) :
    (fld l k).drop (9 + k) = l.drop (9 + k) ∧ All B30 ((fld l k).drop k) ∧ All 669000000000000 (fld l k) ∧ val B30 (fld l k) + val B30 ((l.drop 9).take k) * B30 ^ 9 = val B30 l + 622592 * val B30 ((l.drop 9).take k) := by
  induction k with
  | zero => exact ⟨rfl, by simpa [fld] using ha, ha.mono (by decide), by simp [fld, val]⟩
  | succ k ih =>
    obtain ⟨h1, h2, h3, h4⟩ := ih (by omega)
    have hlen := fld_len l k
    generalize hc : fld l k = c at *
    have hcl : c.length = 19 := by omega
    have hg : c.getD (9 + k) 0 = l.getD (9 + k) 0 := drop_getD h1 (Nat.le_refl _)
    have hx : c.getD k 0 < B30 := by
      have := h2.getD (j := 0) (by simp; omega)
      simpa [List.getD_eq_getElem?_getD] using this
    have hy : l.getD (9 + k) 0 < B30 := ha.getD (by omega)
    have hd : (l.drop 9).getD k 0 = l.getD (9 + k) 0 := by simp [List.getD_eq_getElem?_getD]
    simp only [fld, hc]
    rw [hg]
    generalize hye : l.getD (9 + k) 0 = y at *
    generalize hxe : c.getD k 0 = x at *
    unfold B30 at hx hy
    have hlt : x + y * 622592 < 669000000000000 := by omega
    refine ⟨?_, ?_, ?_, ?_⟩
    · rw [show 9 + (k + 1) = (9 + k) + 1 by omega]
      exact drop_set_succ (by rw [drop_set_lt (by omega), h1])
    · have h5 : All B30 ((c.set k (x + y * 622592)).drop (k + 1)) := by
        rw [drop_set_lt (by omega), ← List.drop_drop]
        exact h2.drop 1
      rw [List.drop_set, if_neg (by omega)]
      exact h5.set _ (by decide)
    · exact (h3.set _ hlt).set _ (by decide)
    · rw [val_take_succ _ _ (by simp; omega), hd]
      have s1 := val_set (B := B30) (l := c) (j := k) (by omega) (x + y * 622592)
      have s2 := val_set (B := B30) (l := c.set k (x + y * 622592)) (j := 9 + k) (by simp; omega) 0
      have e1 : (c.set k (x + y * 622592)).getD (9 + k) 0 = y := by
        simp only [List.getD_eq_getElem?_getD]; rw [List.getElem?_set_ne (by omega)]; rw [← List.getD_eq_getElem?_getD, hg]
      rw [e1] at s2
      rw [hxe] at s1
      rw [Nat.add_mul] at s1
      rw [Nat.zero_mul, Nat.pow_add] at s2
      generalize val B30 ((c.set k (x + y * 622592)).set (9 + k) 0) = v2 at *
      generalize val B30 (c.set k (x + y * 622592)) = v1 at *
      generalize val B30 (List.take k (List.drop 9 l)) = t at *
      rw [Nat.add_mul, Nat.mul_add]
      have e2 : y * B30 ^ k * B30 ^ 9 = y * (B30 ^ 9 * B30 ^ k) := by rw [Nat.mul_assoc, Nat.mul_comm (B30 ^ k)]
      have e3 : y * 622592 * B30 ^ k = 622592 * (y * B30 ^ k) := by rw [Nat.mul_comm y, Nat.mul_assoc]
      rw [e2]
      rw [e3] at s1
      omega

def foldR (v : Nat) : Nat := v % 1897137590064188545819787018382342682267975428761855001222473056385648716020711424 + 622592 * (v / 1897137590064188545819787018382342682267975428761855001222473056385648716020711424)
def foldT (v : Nat) : Nat := v % 57896044618658097711785492504343953926634992332820282019728792003956564819968 + 19 * (v / 57896044618658097711785492504343953926634992332820282019728792003956564819968)
theorem foldR_mod (v : Nat) : foldR v % pP = v % pP := by
  unfold foldR
  have h := Nat.div_add_mod v 1897137590064188545819787018382342682267975428761855001222473056385648716020711424
  have e : v = (v % 1897137590064188545819787018382342682267975428761855001222473056385648716020711424 + 622592 * (v / 1897137590064188545819787018382342682267975428761855001222473056385648716020711424)) + pP * (32768 * (v / 1897137590064188545819787018382342682267975428761855001222473056385648716020711424)) := by
    unfold pP; omega
  conv => rhs; rw [e]
  rw [Nat.add_mul_mod_self_left]
theorem foldT_mod (v : Nat) : foldT v % pP = v % pP := by
  unfold foldT
  have e : v = (v % 57896044618658097711785492504343953926634992332820282019728792003956564819968 + 19 * (v / 57896044618658097711785492504343953926634992332820282019728792003956564819968)) + pP * (v / 57896044618658097711785492504343953926634992332820282019728792003956564819968) := by
    unfold pP; omega
  conv => rhs; rw [e]
  rw [Nat.add_mul_mod_self_left]
theorem B30_9 : B30 ^ 9 = 1897137590064188545819787018382342682267975428761855001222473056385648716020711424 := by decide

/-- One pass over all digits. -/
def passR (l : List Nat) : List Nat := fld (carr B30 l 19).1 10
theorem passR_spec (l : List Nat) (hl : l.length = 19) (hv : val B30 l < B30 ^ 19) : (passR l).length = 19 ∧ All 669000000000000 (passR l) ∧ val B30 (passR l) = foldR (val B30 l) := by
  obtain ⟨_, h2, h3⟩ := carr_spec (B := B30) (by decide) l 19 (by omega)
  have hcl := carr_len (B := B30) l 19
  rw [List.take_of_length_le (by omega)] at h2 h3
  rw [List.take_of_length_le (by omega)] at h3
  obtain ⟨_, h4⟩ := no_carry hv h3
  obtain ⟨_, _, g3, g4⟩ := fld_spec (carr B30 l 19).1 (by omega) h2 10 (by omega)
  refine ⟨by unfold passR; rw [fld_len]; omega, g3, ?_⟩
  rw [List.take_of_length_le (by rw [List.length_drop]; omega), h4] at g4
  have hc := val_cut (B := B30) (carr B30 l 19).1 9 (by omega)
  have hlt := val_take_lt (B := B30) h2 (k := 9) (by omega)
  rw [h4] at hc
  unfold passR foldR
  rw [B30_9] at *
  generalize val B30 (fld (carr B30 l 19).1 10) = x at *
  generalize val B30 (List.drop 9 (carr B30 l 19).1) = h at *
  generalize val B30 (List.take 9 (carr B30 l 19).1) = t at *
  generalize val B30 l = v at *
  have e1 : v / 1897137590064188545819787018382342682267975428761855001222473056385648716020711424 = h := by omega
  have e2 : v % 1897137590064188545819787018382342682267975428761855001222473056385648716020711424 = t := by omega
  rw [e1, e2]
  omega

/-- One pass over the nine digits: the top ones folded. -/
def passT (l : List Nat) : List Nat :=
  let c := (carr B30 l 9).1
  let q := (carr B30 l 9).2 * 32768 + c.getD 8 0 / 32768
  let d := c.set 8 (c.getD 8 0 % 32768)
  d.set 0 (d.getD 0 0 + 19 * q)
theorem passT_spec (l : List Nat) (hl : l.length = 19) : (passT l).length = 19 ∧ (passT l).getD 0 0 = val B30 (l.take 9) % B30 + 19 * (val B30 (l.take 9) / 57896044618658097711785492504343953926634992332820282019728792003956564819968) ∧ val B30 ((passT l).take 9) = foldT (val B30 (l.take 9)) ∧ All B30 (((passT l).take 9).drop 1) ∧ (passT l).getD 8 0 < 32768 := by
  obtain ⟨h1, h2, h3⟩ := carr_spec (B := B30) (by decide) l 9 (by omega)
  have hcl := carr_len (B := B30) l 9
  unfold passT
  generalize (carr B30 l 9).1 = c at *
  generalize (carr B30 l 9).2 = cr at *
  have hc9 : c.take 9 = c.take 8 ++ [c.getD 8 0] := by rw [getD_at (by omega), ← List.take_succ_eq_append_getElem (by omega)]
  have ht8 := val_take_lt (B := B30) h2 (k := 8) (by rw [List.length_take]; omega)
  rw [List.take_take, show min 8 9 = 8 from rfl] at ht8
  have hx8 : c.getD 8 0 < B30 := h2 _ (by rw [hc9]; simp)
  simp only []
  generalize hx : c.getD 8 0 = x at *
  have hd9 : (c.set 8 (x % 32768)).take 9 = c.take 8 ++ [x % 32768] := by
    rw [List.take_succ_eq_append_getElem (by simp; omega), List.take_set_of_le (by omega)]
    simp
  have h0 : (c.set 8 (x % 32768)).getD 0 0 = c.getD 0 0 := by simp only [List.getD_eq_getElem?_getD]; rw [List.getElem?_set_ne (by omega)]
  refine ⟨by simp; omega, ?_, ?_, ?_, ?_⟩
  · rw [h0]
    have e1 : c.getD 0 0 = val B30 (l.take 9) % B30 := by
      rw [← h3]
      have := val_digit (B := B30) h2 0 (by rw [List.length_take]; omega)
      rw [Nat.pow_zero, Nat.div_one] at this
      rw [show cr * B30 ^ 9 = (cr * B30 ^ 8) * B30 by rw [Nat.mul_assoc, ← Nat.pow_succ], Nat.add_mul_mod_self_right, this]
      simp [List.getD_eq_getElem?_getD]
    have e2 : val B30 (l.take 9) / 57896044618658097711785492504343953926634992332820282019728792003956564819968 = cr * 32768 + x / 32768 := by
      rw [hc9, val_append, List.length_take, Nat.min_eq_left (by omega), B30_9] at h3
      simp only [val, Nat.mul_zero, Nat.add_zero] at h3
      generalize val B30 (List.take 8 c) = t at *
      generalize val B30 (List.take 9 l) = V at *
      have p8 : B30 ^ 8 = 1766847064778384329583297500742918515827483896875618958121606201292619776 := by decide
      rw [p8] at ht8 h3
      clear hc9 hd9 h0 h1 h2 e1
      unfold B30 at hx8
      omega
    rw [← e1, e2]
    simp [show 0 < c.length by omega]
  · rw [List.take_set, hd9]
    have s := val_set (B := B30) (l := c.take 8 ++ [x % 32768]) (j := 0) (by simp) ((c.set 8 (x % 32768)).getD 0 0 + 19 * (cr * 32768 + x / 32768))
    have e0 : (c.take 8 ++ [x % 32768]).getD 0 0 = c.getD 0 0 := by
      rw [← hd9, ← h0]; simp [List.getD_eq_getElem?_getD]
    rw [e0] at s
    rw [h0] at s ⊢
    rw [val_append, List.length_take, Nat.min_eq_left (by omega)] at s
    rw [hc9, val_append, List.length_take, Nat.min_eq_left (by omega)] at h3
    simp only [val, Nat.pow_zero, Nat.mul_one, Nat.mul_zero, Nat.add_zero] at s h3
    generalize val B30 (List.set (List.take 8 c ++ [x % 32768]) 0 (c.getD 0 0 + 19 * (cr * 32768 + x / 32768))) = v2 at *
    generalize val B30 (List.take 8 c) = t at *
    generalize val B30 (List.take 9 l) = V at *
    unfold foldT
    rw [B30_9] at h3
    have p8 : B30 ^ 8 = 1766847064778384329583297500742918515827483896875618958121606201292619776 := by decide
    rw [p8] at ht8 s h3
    clear hc9 hd9 h0 e0 h1 h2
    unfold B30 at hx8
    omega
  · rw [List.take_set, List.drop_set, if_pos (by omega), hd9, List.drop_append_of_le_length (by rw [List.length_take]; omega)]
    intro y hy
    rcases List.mem_append.1 hy with h | h
    · refine h2 y ?_
      rw [hc9]
      exact List.mem_append_left _ (List.mem_of_mem_drop h)
    · simp only [List.mem_singleton] at h; rw [h]; exact Nat.lt_of_lt_of_le (Nat.mod_lt _ (by decide)) (by decide)
  · simp only [List.getD_eq_getElem?_getD]
    rw [List.getElem?_set_ne (by omega)]
    simp [show 8 < c.length by omega, Nat.mod_lt]

theorem passesV {v : Nat} (h : v < 1897137590064188545819787018382342682267975428761855001222473056385648716020711424) : foldT (foldT v) < 57896044618658097711785492504343953926634992332820282019728792003956564819968 + 19 := by
  unfold foldT; omega
def redList (l : List Nat) : List Nat := (passT (passT (passT (passR (passR (passR l)))))).take 9
theorem passes {v : Nat} (h : v < 3864537523017258344695351890931987344298927329706434998657235251451519142289560424536193766581922577962463616031502177177365078661042987655742908673467080748696980814823424) :
    foldR (foldR (foldR v)) < 1897137590064188545819787018382342682267975428761855001222473056385648716020711424 ∧ foldR v < 3864537523017258344695351890931987344298927329706434998657235251451519142289560424536193766581922577962463616031502177177365078661042987655742908673467080748696980814823424 ∧ foldR (foldR v) < 3864537523017258344695351890931987344298927329706434998657235251451519142289560424536193766581922577962463616031502177177365078661042987655742908673467080748696980814823424 := by
  unfold foldR; omega
theorem passesT {v : Nat} (h : v < 1897137590064188545819787018382342682267975428761855001222473056385648716020711424) : foldT (foldT (foldT v)) < 57896044618658097711785492504343953926634992332820282019728792003956564819968 := by
  unfold foldT; omega
theorem redList_spec (l : List Nat) (hl : l.length = 19) (hv : val B30 l < B30 ^ 19) : ∃ u, redList l = digs B30 u 9 ∧ u < 57896044618658097711785492504343953926634992332820282019728792003956564819968 ∧ u % pP = val B30 l % pP := by
  have p19 : B30 ^ 19 = 3864537523017258344695351890931987344298927329706434998657235251451519142289560424536193766581922577962463616031502177177365078661042987655742908673467080748696980814823424 := by decide
  obtain ⟨a1, _, a3⟩ := passR_spec l hl hv
  obtain ⟨g1, g2, g3⟩ := passes (v := val B30 l) (by rw [← p19]; exact hv)
  obtain ⟨b1, _, b3⟩ := passR_spec (passR l) a1 (by rw [a3, p19]; exact g2)
  obtain ⟨c1, _, c3⟩ := passR_spec (passR (passR l)) b1 (by rw [b3, a3, p19]; exact g3)
  rw [b3, a3] at c3
  have hc := val_cut (B := B30) (passR (passR (passR l))) 9 (by omega)
  unfold redList
  have c4 : val B30 ((passR (passR (passR l))).take 9) = foldR (foldR (foldR (val B30 l))) := by
    rw [c3, B30_9] at hc
    generalize foldR (foldR (foldR (val B30 l))) = f at *
    generalize val B30 (List.drop 9 (passR (passR (passR l)))) = h at *
    omega
  have m3 : foldR (foldR (foldR (val B30 l))) % pP = val B30 l % pP := by rw [foldR_mod, foldR_mod, foldR_mod]
  generalize passR (passR (passR l)) = r at *
  obtain ⟨d1, _, d3, _, _⟩ := passT_spec r c1
  obtain ⟨e1, _, e3, _, _⟩ := passT_spec (passT r) d1
  obtain ⟨f1, f2, f3, f4, f5⟩ := passT_spec (passT (passT r)) e1
  rw [e3, d3, c4] at f3 f2
  have hb := passesT g1
  refine ⟨foldT (foldT (foldT (foldR (foldR (foldR (val B30 l)))))), ?_, hb, by rw [foldT_mod, foldT_mod, foldT_mod, m3]⟩
  generalize foldR (foldR (foldR (val B30 l))) = v at *
  have hV := passesV g1
  generalize passT (passT (passT r)) = t at *
  rw [← f3]
  have hall : All B30 (t.take 9) := by
    have h0 : t.take 9 = t.getD 0 0 :: (t.take 9).drop 1 := by
      match t, f1 with
      | x :: t, _ => simp
    rw [h0]
    intro y hy
    rcases List.mem_cons.1 hy with h | h
    · rw [h, f2]
      generalize foldT (foldT v) = V at *
      unfold B30
      omega
    · exact f4 y h
  have := digs_val hall
  rw [List.length_take, f1] at this
  exact this.symm
end DG
end Go.Proofs.Ytoaihbmicdbaiaa
