/- Plain: how the document's reduce goes, pass by pass. A region that draws its order, whose first operations read and call (what stood stays), and whose last ones come in one order alone. The walk of the document's reduce. The walks of the document's numbers: Read, Of, Small, Add, Sub. -/
import Derived.Test.YtceljjnohjnepaaGreatDoorM02
import Derived.StillTail
import Derived.Deep.LoopGhost
namespace Go.Proofs.YtceljjnohjnepaaGreatDoor
namespace DG

/-- What a word may be that something is added to. -/
def mW : Nat := 18446741874686296064
set_option maxRecDepth 100000 in
theorem carr_bound (l : List Nat) (hM : All mW l) (k : Nat) (hk : k ≤ l.length) : (carr B30 l k).2 ≤ 34359738368 := by
  induction k with
  | zero => exact Nat.zero_le _
  | succ k ih =>
    have h1 := ih (by omega)
    have h2 := carr_getD (B := B30) (by decide) l k (by omega)
    have h3 := hM.getD (j := k) (by omega)
    show ((carr B30 l k).1.getD k 0 + (carr B30 l k).2) / B30 ≤ _
    rw [h2]
    unfold mW at h3
    generalize (carr B30 l k).2 = c at *
    unfold B30
    omega
set_option maxRecDepth 100000 in
theorem carr_all (l : List Nat) (hM : All mW l) (k : Nat) : All mW (carr B30 l k).1 := by
  induction k with
  | zero => exact hM
  | succ k ih => exact All.set ih _ (Nat.lt_of_lt_of_le (Nat.mod_lt _ (by decide)) (by decide))
def itR (l : List Nat) : Nat → List Nat
  | 0 => l
  | k + 1 => passR (itR l k)
def itT (l : List Nat) : Nat → List Nat
  | 0 => l
  | k + 1 => passT (itT l k)
set_option maxRecDepth 100000 in
theorem val_mod_step {v : Nat} (h : v < B30 ^ 19) : foldR v < B30 ^ 19 := by
  have e : B30 ^ 19 = 3864537523017258344695351890931987344298927329706434998657235251451519142289560424536193766581922577962463616031502177177365078661042987655742908673467080748696980814823424 := by decide
  rw [e] at h ⊢
  unfold foldR
  omega
set_option maxRecDepth 100000 in
theorem itR_spec (l : List Nat) (hl : l.length = 19) (hM : All mW l) (hv : val B30 l < B30 ^ 19) (k : Nat) : (itR l k).length = 19 ∧ All mW (itR l k) ∧ val B30 (itR l k) < B30 ^ 19 := by
  induction k with
  | zero => exact ⟨hl, hM, hv⟩
  | succ k ih =>
    obtain ⟨h1, h2, h3⟩ := ih
    obtain ⟨g1, g2, g3⟩ := passR_spec _ h1 h3
    exact ⟨g1, g2.mono (by decide), by show val B30 (passR (itR l k)) < _; rw [g3]; exact val_mod_step h3⟩
set_option maxRecDepth 100000 in
theorem passT_all (l : List Nat) (hl : l.length = 19) (hM : All mW l) : All mW (passT l) := by
  have hc := carr_all l hM 9
  have hb := carr_bound l hM 9 (by omega)
  have hcl := carr_len (B := B30) l 9
  obtain ⟨_, h2, _⟩ := carr_spec (B := B30) (by decide) l 9 (by omega)
  unfold passT
  generalize (carr B30 l 9).1 = c at *
  generalize (carr B30 l 9).2 = cr at *
  have h8 : c.getD 8 0 < 1073741824 := by
    have := h2.getD (j := 8) (by rw [List.length_take]; omega)
    simpa [List.getD_eq_getElem?_getD, B30] using this
  have h0 : c.getD 0 0 < 1073741824 := by
    have := h2.getD (j := 0) (by rw [List.length_take]; omega)
    simpa [List.getD_eq_getElem?_getD, B30] using this
  simp only []
  have h00 : (c.set 8 (c.getD 8 0 % 32768)).getD 0 0 = c.getD 0 0 := by simp only [List.getD_eq_getElem?_getD]; rw [List.getElem?_set_ne (by omega)]
  rw [h00]
  refine All.set (All.set hc _ ?_) _ ?_
  · unfold mW; omega
  · unfold mW; omega
set_option maxRecDepth 100000 in
theorem itT_spec (l : List Nat) (hl : l.length = 19) (hM : All mW l) (k : Nat) : (itT l k).length = 19 ∧ All mW (itT l k) := by
  induction k with
  | zero => exact ⟨hl, hM⟩
  | succ k ih => exact ⟨(passT_spec _ ih.1).1, passT_all _ ih.1 ih.2⟩
set_option maxRecDepth 100000 in
theorem redList_it (l : List Nat) : redList l = (itT (itR l 3) 3).take 9 := rfl
set_option maxRecDepth 100000 in
/-- The facts for one pass of the second kind. -/
theorem passT_facts (l : List Nat) (hl : l.length = 19) (_hM : All mW l) : (carr B30 l 9).1.getD 8 0 < 1073741824 ∧ (carr B30 l 9).1.getD 0 0 < 1073741824 := by
  obtain ⟨_, h2, _⟩ := carr_spec (B := B30) (by decide) l 9 (by omega)
  have hcl := carr_len (B := B30) l 9
  generalize (carr B30 l 9).1 = c at *
  constructor
  · have := h2.getD (j := 8) (by rw [List.length_take]; omega)
    simpa [List.getD_eq_getElem?_getD, B30] using this
  · have := h2.getD (j := 0) (by rw [List.length_take]; omega)
    simpa [List.getD_eq_getElem?_getD, B30] using this
set_option maxRecDepth 100000 in
theorem fld_facts (l : List Nat) (hl : l.length = 19) (ha : All B30 l) (k : Nat) (hk : k < 10) : (fld l k).getD k 0 < 1073741824 ∧ (fld l k).getD (9 + k) 0 < 1073741824 := by
  obtain ⟨h1, h2, _, _⟩ := fld_spec l hl ha k (by omega)
  have hlen := fld_len l k
  constructor
  · have := h2.getD (j := 0) (by simp; omega)
    simpa [List.getD_eq_getElem?_getD, B30] using this
  · rw [drop_getD h1 (Nat.le_refl _)]
    exact ha.getD (by omega)
end DG

open Go.RowKit DG
set_option maxRecDepth 100000 in
theorem or15 (a b : Nat) (ha : a ≤ 34359738368) (hb : b < 1073741824) : bits .or .u64 ((a : Int) * 32768) ((b : Int) / 32768) = ((a * 32768 + b / 32768 : Nat) : Int) := by
  rw [show ((a : Int) * 32768) = ((a * 32768 : Nat) : Int) by omega, show ((b : Int) / 32768) = ((b / 32768 : Nat) : Int) by omega, u64_or_nat _ _ (by omega) (by omega), show a * 32768 = a * 2 ^ 15 from rfl, nat_join 15 _ _ (Nat.mul_mod_left _ _) (by omega)]
set_option maxRecDepth 100000 in
theorem and15 (x : Nat) (hx : x < 18446744073709551616) : bits .and .u64 (x : Int) 32767 = ((x % 32768 : Nat) : Int) := by
  rw [show (32767 : Int) = ((32767 : Nat) : Int) from rfl, u64_and_nat _ _ hx (by decide), show (32767 : Nat) = 2 ^ 15 - 1 from rfl, Nat.and_two_pow_sub_one_eq_mod]

end Go.Proofs.YtceljjnohjnepaaGreatDoor

namespace Go.Proofs.YtceljjnohjnepaaGreatDoor
open Go Go.RowKit

section
variable {P : Program} {ops : Array Oper} {md : Region.Mode} {C : World → Prop}
/-- So many operations, each below n, each quiet in the class; then L. -/
def wpAnyT (P : Program) (md : Region.Mode) (ops : Array Oper) (C : World → Prop) (n : Nat) (L : Array Bool → Act → Prop) : Nat → Array Bool → Act → Prop
  | 0, listed, a => L listed a
  | f + 1, listed, a => Region.ready md ops listed ≠ [] ∧ ∀ i ∈ Region.ready md ops listed, i < n ∧ qOp P ops C i (wpAnyT P md ops C n L f (listed.setIfInBounds i true)) a
set_option maxRecDepth 100000 in
theorem wpAny_of_headT {n g : Nat} {L : Array Bool → Act → Prop} {Q' : Exit → Act → World → Prop} (hL : ∀ listed a w, C w → L listed a → wpAny P md ops Q' g listed a w) :
    ∀ (f : Nat) (listed : Array Bool) (a : Act) (w : World), C w → wpAnyT P md ops C n L f listed a → wpAny P md ops Q' (f + g) listed a w
  | 0, listed, a, w, hw, h => by rw [Nat.zero_add]; exact hL _ _ _ hw h
  | f + 1, listed, a, w, hw, h => by
    rw [show f + 1 + g = (f + g) + 1 by omega]
    exact ⟨fun h0 => absurd h0 h.1, fun i hi => wpOp_of_qOp hw (fun a' w' hw' h' => wpAny_of_headT hL f _ a' w' hw' h') (h.2 i hi).2⟩
set_option maxRecDepth 100000 in
theorem wpAnyT_first {n i : Nat} {oi : Oper} {v : Value} {L : Array Bool → Act → Prop} (hi : ops[i]? = some oi) (hsel : ∀ (j : Nat) (o : Oper) cs b, ops[j]? = some o → o.op ≠ .select cs b)
    (hs : Region.sinkB md ops n = true) (hc : Region.chainB md ops n = true) (hn : n < ops.size) (hin : i < n)
    (hdone : ∀ listed a, L listed a → ∀ j ∈ Region.ready md ops listed, n ≤ j) :
    ∀ (f : Nat) (listed : Array Bool) (a : Act), HeadInv md ops n listed →
      (∀ j oj, ops[j]? = some oj → j ≠ i → listed.getD j true = false → (∀ e ∈ oj.after, Region.binds md e = true → e.on ≠ i) → oi.apart ops oj = true) →
      i ∈ Region.ready md ops listed → YieldsIn P ops C oi v a →
      wpAnyT P md ops C n L f (listed.setIfInBounds i true) (a.put oi.dst v) → wpAnyT P md ops C n L (f + 1) listed a := by
  intro f
  have below : ∀ {listed : Array Bool}, HeadInv md ops n listed → listed.getD i true = false → ∀ j ∈ Region.ready md ops listed, j < n := fun {listed} inv hun j hj => by
    rcases Nat.lt_or_ge j n with h | h
    · exact h
    · exact absurd hj (tail_waits hs hc hn inv _ i rfl hin hun j h)
  induction f with
  | zero =>
    intro listed a inv _ hr hy H
    have hun := (mem_ready.1 hr).1
    refine ⟨fun h => (by rw [h] at hr; cases hr), fun j hj => ⟨below inv hun j hj, ?_⟩⟩
    by_cases hji : j = i
    · subst hji; exact hy.qOp hi H
    · have := hdone _ _ H j (ready_mono hj hji)
      have := below inv hun j hj
      omega
  | succ f ih =>
    intro listed a inv hfree hr hy H
    have hun := (mem_ready.1 hr).1
    refine ⟨fun h => (by rw [h] at hr; cases hr), fun j hj => ?_⟩
    have hjn := below inv hun j hj
    refine ⟨hjn, ?_⟩
    by_cases hji : j = i
    · subst hji; exact hy.qOp hi H
    · have h1 := (H.2 j (ready_mono hj hji)).2
      obtain ⟨hjun, oj, hoj, hall⟩ := mem_ready.1 hj
      have hnot : ∀ e ∈ oj.after, Region.binds md e = true → e.on ≠ i := fun e he hb heq => by
        have h1 := hall e he hb
        rw [heq, getD_both hun] at h1
        cases h1
      have h2 := qOp_put hoj (hfree j oj hoj hji hjun hnot) (fun cs b => hsel i oi cs b hi) (fun cs b => hsel j oj cs b hoj) hy h1
      have hfree' : ∀ k ok, ops[k]? = some ok → k ≠ i → (listed.setIfInBounds j true).getD k true = false →
          (∀ e ∈ ok.after, Region.binds md e = true → e.on ≠ i) → oi.apart ops ok = true := fun k ok hk hki hun hno => by
        refine hfree k ok hk hki ?_ hno
        by_cases hjk : j = k
        · subst hjk; exact hjun
        · rw [getD_set_ne true hjk] at hun; exact hun
      refine qOp_mono (fun a' h3 => ih (listed.setIfInBounds j true) a' (inv.set hj hjn) hfree' (ready_mono hr (Ne.symm hji)) h3.1 ?_) h2
      rw [Array.setIfInBounds_comm _ _ hji]
      exact h3.2
set_option maxRecDepth 100000 in
theorem wpAnyT_lex {n g : Nat} {Lq : Act → Prop} (hsel : Region.noSelect ops = true) (hs : Region.sinkB md ops n = true) (hc : Region.chainB md ops n = true) (hn : n < ops.size) :
    ∀ (l : List Oper) (k : Nat) (listed : Array Bool) (a : Act), (∀ j, j < l.length → l[j]? = ops[k + j]?) → k + l.length = n → HeadInv md ops n listed →
    Region.lexHead md ops g l.length k listed = true → wpQuiet P ops C Lq l a →
    wpAnyT P md ops C n (fun listed' a' => Region.seqB md ops g n listed' = true ∧ Lq a') l.length listed a
  | [], k, listed, a, _, hk, _, hB, h => by
    have : k = n := by simpa using hk
    subst this
    exact ⟨by simpa [Region.lexHead] using hB, h⟩
  | o :: l, k, listed, a, hl, hk, inv, hB, h => by
    have h0 : ops[k]? = some o := by simpa using (hl 0 (by simp)).symm
    simp only [List.length_cons, Region.lexHead, Bool.and_eq_true] at hB
    obtain ⟨⟨hr, hf⟩, hB'⟩ := hB
    have hkn : k < n := by simp only [List.length_cons] at hk; omega
    have hr' : k ∈ Region.ready md ops listed := by simpa using hr
    have hst : qOp P ops C k (wpQuiet P ops C Lq l) a := by unfold qOp; simp only [h0]; exact h
    obtain ⟨v, hy, hK⟩ := yieldsIn_of_qOp h0 hst
    exact wpAnyT_first h0 (Region.noSelect_spec hsel) hs hc hn hkn (fun listed' a' hL => seqB_ready hL.1) l.length listed a inv (Region.free_spec h0 hf) hr' hy
      (wpAnyT_lex hsel hs hc hn l (k + 1) _ _ (fun j hj => by have := hl (j + 1) (by simp; omega); simpa [Nat.add_assoc, Nat.add_comm 1 j] using this) (by simp only [List.length_cons] at hk; omega) (inv.set hr' hkn) hB' hK)

set_option maxRecDepth 100000 in
/-- The law: the operations before number n read and call; those from n on come one behind the other. -/
theorem wp_region_later_tail {id : Nat} {Q : Exit → Act → World → Prop} {a : Act} {w : World} {l : List Oper} (n : Nat) (hm : P.follows .mixedOrders = true) (hB : Region.lexTailB .any l.toArray n = true)
    (h : wpQuiet P l.toArray (fun w' => ∃ x : Later w, w' = x.w') (fun a' => ∀ w', (∃ x : Later w, w' = x.w') → wpList P l.toArray Q (l.drop n) a' w') (l.take n) a) : (Code.region id l.toArray true).wp P Q a w := by
  simp only [Region.lexTailB, Bool.and_eq_true, decide_eq_true_eq] at hB
  obtain ⟨⟨⟨⟨hsel, hn⟩, hs⟩, hc⟩, hlex⟩ := hB
  have hn' : n < l.length := by simpa using hn
  have htl : (l.take n).length = n := by simp; omega
  have hdl : (l.drop n).length = l.toArray.size - n := by simp
  have inv0 : HeadInv .any l.toArray n (Array.replicate l.toArray.size false) :=
    ⟨by simp, fun j oj _ hl => (by rw [getD_replicate_false] at hl; cases hl), fun t _ ht => getD_in (by simpa using ht) (getD_replicate_false _ _)⟩
  have H := wpAnyT_lex (md := .any) (g := l.toArray.size - n) hsel hs hc hn (l.take n) 0 _ a (fun j hj => by
    have hj' : j < n := by rw [htl] at hj; exact hj
    simp [hj']) (by simpa using htl) inv0 (by rw [htl]; exact hlex) h
  refine wp_region_any hm ?_
  have := wpAny_of_headT (Q' := Q) (g := l.toArray.size - n) (fun listed a' w' hw' hL => by
    have := wpAny_of_seq (md := .any) (Q' := Q) (l.drop n) n listed a' w' (fun j => by simp [List.getElem?_drop]) (by rw [hdl]; exact hL.1) (hL.2 w' hw')
    rwa [hdl] at this) _ _ _ _ (⟨⟨w.drew, (Below.refl _ _).drew⟩, rfl⟩ : ∃ x : Later w, w.drew = x.w') H
  rw [htl, show n + (l.toArray.size - n) = l.toArray.size by omega] at this
  exact this
end

end Go.Proofs.YtceljjnohjnepaaGreatDoor

namespace Go.Proofs.YtceljjnohjnepaaGreatDoor
open Go.RowKit DG
set_option maxRecDepth 100000 in
theorem info_A19 : (Tryz.prog.info? 112).map (·.size) = some 19 := by kernel_rfl
                 theorem exl_A19 {r : Operand → Value} {dst : Option Nat} {x : Operand} {t : TypeId} {pos : String} {af : Array Edge} {g : Option (Nat × Bool)} : execOp r ⟨dst, .load 112 x, t, pos, af, g⟩ = (do let v ← loadRow 112 (r x); pure (Next.value v)) := rfl
                 theorem exs_A19 {r : Operand → Value} {dst : Option Nat} {x y : Operand} {t : TypeId} {pos : String} {af : Array Edge} {g : Option (Nat × Bool)} : execOp r ⟨dst, .store 112 x y, t, pos, af, g⟩ = (do storeRow 112 (r x) (r y); pure Next.skip) := rfl
                 theorem ldr_A19 (b : Nat) (w : World) : (loadRow 112 (.pointer (some ⟨b, 0, none⟩))).run Tryz.prog w = match hget w b with | some (.cells c _ _) => if c.size = 19 then .ok (.agg c) w else stuckL Tryz.prog 112 b w | _ => stuckL Tryz.prog 112 b w := loadRow_run Tryz.underlying112 rfl info_A19 b w
                 theorem str_A19 (b : Nat) (c' : Array Value) (w : World) : (storeRow 112 (.pointer (some ⟨b, 0, none⟩)) (.agg c')).run Tryz.prog w = match hget w b with | some (.cells c T (0, 0)) => if c.size = 19 then (if c'.size = 19 then (if ones c' = true then .ok () (blk w b (.cells c' T (0, 0))) else stuckS Tryz.prog 112 b (.agg c') w) else stuckS Tryz.prog 112 b (.agg c') w) else stuckS Tryz.prog 112 b (.agg c') w | _ => stuckS Tryz.prog 112 b (.agg c') w := storeRow_run info_A19 b c' w
attribute [local go_sem ↓] exl_Num exs_Num exl_A19 exs_A19
                                                                                                                                                                                                                                                                                                                                                                                                                                                                                                                   attribute [local go_sem] ldr_Num str_Num ldr_A19 str_A19
attribute [local go_sem] to_nine0

set_option maxRecDepth 100000 in
theorem val_nine {v : Nat} (h : v < 1897137590064188545819787018382342682267975428761855001222473056385648716020711424) : val B30 (digs B30 v 9) = v := by
  rw [val_digs, B30_9, Nat.mod_eq_of_lt h]
set_option maxRecDepth 100000 in
theorem less_nine (a b : Nat) (W : World) (ha : a < 57896044618658097711785492504343953926634992332820282019728792003956564819968) (hb : b < 57896044618658097711785492504343953926634992332820282019728792003956564819968) :
    Calls Tryz.prog 92 #[.agg (nine a), .agg (nine b)] W fun e w' => e = .returned (.bool (decide (a < b))) ∧ Below W.heap.size W w' := by
  have h := ref_less (digs B30 a 9) (digs B30 b 9) W (digs_all (by decide) _ _) (digs_all (by decide) _ _) (digs_length _ _) (digs_length _ _)
  rw [val_nine (by omega), val_nine (by omega)] at h
  exact h
set_option maxRecDepth 100000 in
theorem minus_nine (a b : Nat) (W : World) (ha : a < 57896044618658097711785492504343953926634992332820282019728792003956564819968) (hb : b ≤ a) :
    Calls Tryz.prog 95 #[.agg (nine a), .agg (nine b)] W fun e w' => e = .returned (.agg (nine (a - b))) ∧ Below W.heap.size W w' := by
  have h := ref_minus (digs B30 a 9) (digs B30 b 9) W (digs_all (by decide) _ _) (digs_all (by decide) _ _) (digs_length _ _) (digs_length _ _) (by rw [val_nine (by omega), val_nine (by omega)]; exact hb)
  rw [val_nine (by omega), val_nine (by omega)] at h
  exact h

set_option maxRecDepth 100000 in
set_option maxHeartbeats 1000000 in
theorem ref_reduce (l : List Nat) (W : World) (hl : l.length = 19) (hM : All mW l) (hv : val B30 l < B30 ^ 19) :
    Calls Tryz.prog 80 #[.agg (ints .u64 l)] W fun e w' => e = .returned (.agg (nine (val B30 l % pP))) ∧ Below W.heap.size W w' := by
  have hsl : (ints .u64 l).size = 19 := by rw [ints_size, hl]
  have HS := hid (itR_spec l hl hM hv)
  have HT := hid (itT_spec (itR l 3) (itR_spec l hl hM hv 3).1 (itR_spec l hl hM hv 3).2.1)
  obtain ⟨u, hu1, hu2, hu3⟩ := redList_spec l hl hv
  rw [redList_it] at hu1
  have HU := hid (And.intro hu1 hu3)
  clear hu1 hu3 hv hM
  go_enter Tryz.func80, Tryz.ntmps80
  go_wp2_with fail
  obtain ⟨N, hN⟩ : ∃ N, N = W.heap.size := ⟨_, rfl⟩
  rw [← hN]
  have HN := hid hN
  go_loopw [3] (fun i wr => ∃ k : Nat, k ≤ 3 ∧ i = .int .i64 (k : Int) ∧ wr.heap[N]? = some (.cells (ints .u64 (itR l k)) 112 (0, 0)) ∧ wr.heap[N + 1]? = some (.cells (nine 0) 48 (0, 0)) ∧ Below W.heap.size W wr) (fun i _ => (3 - intOf i).toNat)
  case atStart => exact ⟨0, by omega, rfl, alloc_old (alloc_at' hN _), alloc_at' (by simp [hN]) _, below_alloc (below_new _) _⟩
  case round =>
    clear hN
    obtain ⟨k, hk, rfl, rA, rZ, rb⟩ := hrel
    have RZ := hid rZ
    have RBE := hid rb
    clear rZ rb
    by_cases hk3 : k < 3
    · have hkd : decide ((k : Int) < 3) = true := decide_eq_true (by omega)
      obtain ⟨hL1, hL2, hL3⟩ := HS.out k
      obtain ⟨L, hL⟩ : ∃ L, itR l k = L := ⟨_, rfl⟩
      have hst : itR l (k + 1) = fld (carr B30 (itR l k) 19).1 10 := rfl
      rw [hL] at hL1 hL2 hL3 rA hst
      have HST := hid hst
      have RA := hid rA
      clear hL hst rA
      go_wp2_with fail
      go_loopw [5, 4] (fun i cy wq => ∃ j : Nat, j ≤ 19 ∧ i = .int .i64 (j : Int) ∧ cy = .int .u64 (((carr B30 L j).2 : Nat) : Int) ∧ wq.heap[N]? = some (.cells (ints .u64 (carr B30 L j).1) 112 (0, 0)) ∧ wq.heap[N + 1]? = some (.cells (nine 0) 48 (0, 0)) ∧ Below W.heap.size W wq) (fun i _ _ => (19 - intOf i).toNat)
      case atStart => exact ⟨0, by omega, rfl, rfl, RA.out, RZ.out, RBE.out⟩
      case round =>
        clear RA RZ RBE
        obtain ⟨j, hj, rfl, rfl, qA, qZ, qb⟩ := hrel
        have QZ := hid qZ
        have QBE := hid qb
        clear qZ qb
        have hcl := carr_len (B := B30) L j
        by_cases hj19 : j < 19
        · have hjd : decide ((j : Int) < 19) = true := decide_eq_true (by omega)
          have hb := carr_bound L hL2 j (by omega)
          have hx : (carr B30 L j).1.getD j 0 < 18446741874686296064 := by rw [carr_getD (by decide) L j (by omega)]; exact hL2.getD (by omega)
          have hst : carr B30 L (j + 1) = ((carr B30 L j).1.set j (((carr B30 L j).1.getD j 0 + (carr B30 L j).2) % B30), ((carr B30 L j).1.getD j 0 + (carr B30 L j).2) / B30) := rfl
          have cj := ints_cell qA (j := j) (by omega)
          have hf := free_at qA
          have hi0 : 0 ≤ (j : Int) := by omega
          have hi1 : (j : Int) < 19 := by omega
          obtain ⟨c, hc⟩ : ∃ c, (carr B30 L j).1 = c := ⟨_, rfl⟩
          obtain ⟨cr, hcr⟩ : ∃ cr, (carr B30 L j).2 = cr := ⟨_, rfl⟩
          obtain ⟨x, hxx⟩ : ∃ x, c.getD j 0 = x := ⟨_, rfl⟩
          rw [hc] at hx hst cj qA
          rw [hcr] at hb hst ⊢
          rw [hxx] at hx hst cj
          have h30 := and30 (x + cr) (by omega)
          have HQ := hid qA
          have HST2 := hid hst
          clear hc hcr hxx hst qA hcl
          have hxi : ((x : Int) + (cr : Int)) = ((x + cr : Nat) : Int) := by omega
          have HXI := hid hxi
          clear hxi
          go_wp2_with fail
          rw [HXI.out, h30]
          refine ⟨⟨j + 1, by omega, by go_num, ?_, ?_, at_setCell_other QZ.out (by simp) _, QBE.out.setCell (by have := HN.out; simp; omega) _⟩, by simp [intOf]; omega⟩
          · rw [HST2.out]; rfl
          · rw [HST2.out]; exact ints_store HQ.out _ _
        · have hjd : decide ((j : Int) < 19) = false := decide_eq_false (by omega)
          have hj9 : j = 19 := by omega
          rw [hj9] at qA hcl
          obtain ⟨_, hall, _⟩ := carr_spec (B := B30) (by decide) L 19 (by omega)
          rw [List.take_of_length_le (by omega)] at hall
          have hcl19 : (carr B30 L 19).1.length = 19 := by omega
          obtain ⟨C, hC⟩ : ∃ C, (carr B30 L 19).1 = C := ⟨_, rfl⟩
          have hst := HST.out
          rw [hC] at qA hall hcl19 hst
          have HST3 := hid hst
          have QA := hid qA
          clear hst HST hC qA hj9 hcl
          go_wp2_with fail
          go_loopw [7] (fun i wq => ∃ j : Nat, j ≤ 10 ∧ i = .int .i64 (j : Int) ∧ wq.heap[N]? = some (.cells (ints .u64 (fld C j)) 112 (0, 0)) ∧ wq.heap[N + 1]? = some (.cells (nine 0) 48 (0, 0)) ∧ Below W.heap.size W wq) (fun i _ => (10 - intOf i).toNat)
          case atStart => exact ⟨0, by omega, rfl, QA.out, QZ.out, QBE.out⟩
          case round =>
            clear QA QZ QBE
            obtain ⟨j, hj, rfl, qA, qZ, qb⟩ := hrel
            have QZ := hid qZ
            have QBE := hid qb
            clear qZ qb
            by_cases hj10 : j < 10
            · have hjd : decide ((j : Int) < 10) = true := decide_eq_true (by omega)
              obtain ⟨hx, hy⟩ := fld_facts C hcl19 hall j hj10
              have hfl := fld_len C j
              have hst : fld C (j + 1) = ((fld C j).set j ((fld C j).getD j 0 + (fld C j).getD (9 + j) 0 * 622592)).set (9 + j) 0 := rfl
              have cj := ints_cell qA (j := j) (by omega)
              have ck := ints_cell qA (j := 9 + j) (by omega)
              have hf := free_at qA
              have hi0 : 0 ≤ (j : Int) := by omega
              have hi1 : (j : Int) < 19 := by omega
              have hi2 : 0 ≤ 9 + (j : Int) := by omega
              have hi3 : 9 + (j : Int) < 19 := by omega
              have hi4 : (9 + (j : Int)).toNat = 9 + j := by omega
              obtain ⟨c, hc⟩ : ∃ c, fld C j = c := ⟨_, rfl⟩
              obtain ⟨x, hxx⟩ : ∃ x, c.getD j 0 = x := ⟨_, rfl⟩
              obtain ⟨y, hyy⟩ : ∃ y, c.getD (9 + j) 0 = y := ⟨_, rfl⟩
              rw [hc] at hx hy hst cj ck qA
              rw [hxx] at hx hst cj
              rw [hyy] at hy hst ck
              have HST4 := hid hst
              have hq1 := hid (ints_store qA j (x + y * 622592))
              clear hc hxx hyy hst hfl
              go_wp2_with fail
              refine still_tail 11 (by kernel_rfl) (by kernel_rfl) ?_
              simp only [List.take_succ_cons, List.take_zero, List.drop_succ_cons, List.drop_zero]
              repeat (first | (refine wpStill_step (fun K hK => ?_); go_simp; refine hK _ ?_; clear hK K; try go_ints))
              refine wpStill_nil ?_
              have hxi : ((x : Int) + (y : Int) * 622592) = ((x + y * 622592 : Nat) : Int) := by omega
              have HXI := hid hxi
              clear hxi
              go_wp2_with fail
              refine ⟨⟨j + 1, by omega, by go_num, ?_, at_setCell_other (at_setCell_other QZ.out (by simp) _) (by simp) _, ((QBE.out.setCell (by have := HN.out; simp; omega) _).setCell (by have := HN.out; simp; omega) _).drew⟩, by simp [intOf]; omega⟩
              rw [HXI.out, HST4.out]
              exact ints_store hq1.out _ 0
            · have hjd : decide ((j : Int) < 10) = false := decide_eq_false (by omega)
              have hj9 : j = 10 := by omega
              rw [hj9, ← HST3.out] at qA
              have QA := hid qA
              clear qA hj9 HST3
              go_wp2_with fail
              exact ⟨⟨k + 1, by omega, by go_num, QA.out, QZ.out, QBE.out⟩, by simp [intOf]; omega⟩
    · have hkd : decide ((k : Int) < 3) = false := decide_eq_false (by omega)
      have hk9 : k = 3 := by omega
      rw [hk9] at rA
      obtain ⟨T, hT⟩ : ∃ T, itR l 3 = T := ⟨_, rfl⟩
      have ht := HT.out
      have hu := HU.out
      rw [hT] at rA ht hu
      have HT2 := hid ht
      have HU2 := hid hu
      have RA := hid rA
      clear hT ht hu rA HT HU HS hk9
      go_wp2_with fail
      obtain ⟨X, hX⟩ : ∃ X, wr.heap.size = X := ⟨_, rfl⟩
      rw [hX]
      have hNX : N + 1 < X := by rw [← hX]; exact lt_blk RZ.out
      have hWX : W.heap.size ≤ X := by have := HN.out; omega
      go_loopw [9] (fun i wq => ∃ k : Nat, k ≤ 3 ∧ i = .int .i64 (k : Int) ∧ wq.heap[N]? = some (.cells (ints .u64 (itT T k)) 112 (0, 0)) ∧ wq.heap[N + 1]? = some (.cells (nine 0) 48 (0, 0)) ∧ wq.heap[X]? = some (.cells (nine 0) 48 (0, 0)) ∧ Below W.heap.size W wq) (fun i _ => (3 - intOf i).toNat)
      case atStart => exact ⟨0, by omega, rfl, alloc_old RA.out, alloc_old RZ.out, alloc_at' hX.symm _, below_alloc RBE.out _⟩
      case round =>
        clear RA RZ RBE hX
        obtain ⟨k, hk, rfl, rA, rZ, rX, rb⟩ := hrel
        have RZ := hid rZ
        have RX := hid rX
        have RBE := hid rb
        clear rZ rX rb
        by_cases hk3 : k < 3
        · have hkd : decide ((k : Int) < 3) = true := decide_eq_true (by omega)
          obtain ⟨hL1, hL2⟩ := HT2.out k
          obtain ⟨L, hL⟩ : ∃ L, itT T k = L := ⟨_, rfl⟩
          have hst : itT T (k + 1) = passT (itT T k) := rfl
          rw [hL] at hL1 hL2 rA hst
          have HST := hid hst
          have RA := hid rA
          clear hL hst rA
          go_wp2_with fail
          go_loopw [11, 10] (fun i cy wq => ∃ j : Nat, j ≤ 9 ∧ i = .int .i64 (j : Int) ∧ cy = .int .u64 (((carr B30 L j).2 : Nat) : Int) ∧ wq.heap[N]? = some (.cells (ints .u64 (carr B30 L j).1) 112 (0, 0)) ∧ wq.heap[N + 1]? = some (.cells (nine 0) 48 (0, 0)) ∧ wq.heap[X]? = some (.cells (nine 0) 48 (0, 0)) ∧ Below W.heap.size W wq) (fun i _ _ => (9 - intOf i).toNat)
          case atStart => exact ⟨0, by omega, rfl, rfl, RA.out, RZ.out, RX.out, RBE.out⟩
          case round =>
            clear RA RZ RBE RX
            obtain ⟨j, hj, rfl, rfl, qA, qZ, qX, qb⟩ := hrel
            have QZ := hid qZ
            have QX := hid qX
            have QBE := hid qb
            clear qZ qb qX
            have hcl := carr_len (B := B30) L j
            have hb := carr_bound L hL2 j (by omega)
            by_cases hj9 : j < 9
            · have hjd : decide ((j : Int) < 9) = true := decide_eq_true (by omega)
              have hx : (carr B30 L j).1.getD j 0 < 18446741874686296064 := by rw [carr_getD (by decide) L j (by omega)]; exact hL2.getD (by omega)
              have hst : carr B30 L (j + 1) = ((carr B30 L j).1.set j (((carr B30 L j).1.getD j 0 + (carr B30 L j).2) % B30), ((carr B30 L j).1.getD j 0 + (carr B30 L j).2) / B30) := rfl
              have cj := ints_cell qA (j := j) (by omega)
              have hf := free_at qA
              have hi0 : 0 ≤ (j : Int) := by omega
              have hi1 : (j : Int) < 19 := by omega
              obtain ⟨c, hc⟩ : ∃ c, (carr B30 L j).1 = c := ⟨_, rfl⟩
              obtain ⟨cr, hcr⟩ : ∃ cr, (carr B30 L j).2 = cr := ⟨_, rfl⟩
              obtain ⟨x, hxx⟩ : ∃ x, c.getD j 0 = x := ⟨_, rfl⟩
              rw [hc] at hx hst cj qA
              rw [hcr] at hb hst ⊢
              rw [hxx] at hx hst cj
              have h30 := and30 (x + cr) (by omega)
              have HQ := hid qA
              have HST2 := hid hst
              clear hc hcr hxx hst qA hcl
              have hxi : ((x : Int) + (cr : Int)) = ((x + cr : Nat) : Int) := by omega
              have HXI := hid hxi
              clear hxi
              go_wp2_with fail
              rw [HXI.out, h30]
              refine ⟨⟨j + 1, by omega, by go_num, ?_, ?_, at_setCell_other QZ.out (by simp) _, at_setCell_other QX.out (by simp; omega) _, QBE.out.setCell (by have := HN.out; simp; omega) _⟩, by simp [intOf]; omega⟩
              · rw [HST2.out]; rfl
              · rw [HST2.out]; exact ints_store HQ.out _ _
            · have hjd : decide ((j : Int) < 9) = false := decide_eq_false (by omega)
              have hj10 : j = 9 := by omega
              subst hj10
              obtain ⟨f8, f0⟩ := passT_facts L hL1 hL2
              have hst := HST.out
              unfold passT at hst
              simp only [] at hst
              obtain ⟨c, hc⟩ : ∃ c, (carr B30 L 9).1 = c := ⟨_, rfl⟩
              obtain ⟨cr, hcr⟩ : ∃ cr, (carr B30 L 9).2 = cr := ⟨_, rfl⟩
              rw [hc] at f8 f0 qA hst hcl
              rw [hcr] at hb hst ⊢
              have h00 : (c.set 8 (c.getD 8 0 % 32768)).getD 0 0 = c.getD 0 0 := by simp only [List.getD_eq_getElem?_getD]; rw [List.getElem?_set_ne (by omega)]
              rw [h00] at hst
              have c8 := ints_cell qA (j := 8) (by omega)
              have c0 := ints_cell qA (j := 0) (by omega)
              have hf := free_at qA
              obtain ⟨x, hxx⟩ : ∃ x, c.getD 8 0 = x := ⟨_, rfl⟩
              obtain ⟨y, hyy⟩ : ∃ y, c.getD 0 0 = y := ⟨_, rfl⟩
              rw [hxx] at f8 hst c8
              rw [hyy] at f0 hst c0
              have ho := or15 cr x hb f8
              have ha := and15 x (by omega)
              have HQ := hid qA
              have HST5 := hid hst
              have hq1 := hid (ints_store qA 8 (x % 32768))
              have hxi : ((y : Int) + 19 * ((cr * 32768 + x / 32768 : Nat) : Int)) = ((y + 19 * (cr * 32768 + x / 32768) : Nat) : Int) := by omega
              have HXI := hid hxi
              have hq : cr * 32768 + x / 32768 < 1200000000000000 := by omega
              clear hst hc hcr hxx hyy qA hcl h00 hxi HST
              go_wp2_with fail
              refine ⟨⟨k + 1, by omega, by go_num, ?_, at_setCell_other (at_setCell_other QZ.out (by simp) _) (by simp) _, at_setCell_other (at_setCell_other QX.out (by simp; omega) _) (by simp; omega) _, (QBE.out.setCell (by have := HN.out; simp; omega) _).setCell (by have := HN.out; simp; omega) _⟩, by simp [intOf]; omega⟩
              have e1 : ((x : Int) % 32768) = ((x % 32768 : Nat) : Int) := by omega
              have e2 : ((y : Int) + 19 * ((cr : Int) * 32768 + (x : Int) / 32768)) = ((y + 19 * (cr * 32768 + x / 32768) : Nat) : Int) := by omega
              rw [HST5.out, e1, e2]
              exact ints_store hq1.out _ _
        · have hkd : decide ((k : Int) < 3) = false := decide_eq_false (by omega)
          have hk9 : k = 3 := by omega
          subst hk9
          obtain ⟨hT1, _⟩ := HT2.out 3
          obtain ⟨hu1, hu3⟩ := HU2.out
          obtain ⟨R, hR⟩ : ∃ R, itT T 3 = R := ⟨_, rfl⟩
          rw [hR] at hT1 hu1 rA
          have HU3 := hid hu1
          have HU4 := hid hu3
          have RA := hid rA
          clear hu1 hu3 hR rA HT2 HU2
          go_wp2_with fail
          go_loopw [13] (fun i wq => ∃ (j : Nat) (o : List Nat), j ≤ 9 ∧ i = .int .i64 (j : Int) ∧ o.length = 9 ∧ o.take j = R.take j ∧ wq.heap[N]? = some (.cells (ints .u64 R) 112 (0, 0)) ∧ wq.heap[N + 1]? = some (.cells (nine 0) 48 (0, 0)) ∧ wq.heap[X]? = some (.cells (ints .u64 o) 48 (0, 0)) ∧ Below W.heap.size W wq) (fun i _ => (9 - intOf i).toNat)
          case atStart => exact ⟨0, digs B30 0 9, by omega, rfl, digs_length _ _, rfl, RA.out, RZ.out, RX.out, RBE.out⟩
          case round =>
            clear RA RZ RBE RX
            obtain ⟨j, o, hj, rfl, hol, hot, qA, qZ, qX, qb⟩ := hrel
            have QZ := hid qZ
            have QBE := hid qb
            have HOT := hid hot
            clear qZ qb hot
            by_cases hj9 : j < 9
            · have hjd : decide ((j : Int) < 9) = true := decide_eq_true (by omega)
              have cj := ints_cell qA (j := j) (by omega)
              have ck := ints_cell qX (j := j) (by omega)
              have hf := free_at qX
              have hi0 : 0 ≤ (j : Int) := by omega
              have hi1 : (j : Int) < 19 := by omega
              have hi3 : (j : Int) < 9 := by omega
              obtain ⟨x, hxx⟩ : ∃ x, R.getD j 0 = x := ⟨_, rfl⟩
              rw [hxx] at cj
              have HX := hid hxx
              have QA := hid qA
              have QX := hid qX
              clear hxx qA qX
              go_wp2_with fail
              refine ⟨⟨j + 1, o.set j x, by omega, by go_num, by simp [hol], ?_, at_setCell_other QA.out (by simp; omega) _, at_setCell_other QZ.out (by simp; omega) _, ints_store QX.out _ _, QBE.out.setCell (by simp; omega) _⟩, by simp [intOf]; omega⟩
              rw [List.take_succ_eq_append_getElem (by rw [List.length_set]; omega), List.take_succ_eq_append_getElem (l := R) (by omega), List.take_set_of_le (Nat.le_refl _), HOT.out, ← HX.out, getD_at (by omega)]
              simp
            · have hjd : decide ((j : Int) < 9) = false := decide_eq_false (by omega)
              have hj10 : j = 9 := by omega
              have ho := HOT.out
              rw [hj10, List.take_of_length_le (l := o) (by omega), HU3.out] at ho
              have gX : hget wr X = some (.cells (nine u) 48 (0, 0)) := by rw [ho] at qX; exact qX
              have gR : hget wr (N + 1) = some (.cells (nine 0) 48 (0, 0)) := QZ.out
              have qb' := QBE.out
              clear ho hj10 qA qX QZ HOT HU3 QBE
              go_wp2_with fail
              go_loopg [] u (fun g wr => ∃ v : Nat, g = v ∧ v < 57896044618658097711785492504343953926634992332820282019728792003956564819968 ∧ v % pP = val B30 l % pP ∧ hget wr X = some (.cells (nine v) 48 (0, 0)) ∧ hget wr (N + 1) = some (.cells (nine 0) 48 (0, 0)) ∧ Below W.heap.size W wr)
              case atStart => exact ⟨u, rfl, hu2, HU4.out, gX, gR, qb'⟩
              case round =>
                clear gX gR qb' HU4
                obtain ⟨v, rfl, hv1, hv2, qX, qR, qb⟩ := hrel
                have HPR := hid (fun w => ref_Prime w)
                have HLE := hid (fun w => less_nine gk pP w hv1 (by decide))
                have jX := (kept qX).later
                have jR := (kept qR).later
                have qb2 := hid qb
                clear qb
                by_cases hlt : gk < pP
                · rw [decide_eq_true hlt] at HLE
                  go_upto_region 34 with (fail)
                  refine wp_region_later (by kernel_rfl) (by kernel_rfl) ?_
                  repeat ((go_big_quiet_step ((first | (go_at_call 94; with_reducible exact calls_later (HPR.out _)) | (go_at_call 92; with_reducible exact calls_later (HLE.out _))))))
                  refine wpQuiet_nil ?_
                  intro wL hwL
                  obtain ⟨⟨w8, hL⟩, e8⟩ := hwL
                  change wL = w8 at e8
                  subst e8
                  have kX : Kept wL _ _ := kept (jX ⟨_, hL⟩)
                  have kR : Kept wL _ _ := kept (jR ⟨_, hL⟩)
                  have b8 := hid (below_to qb2.out hL)
                  clear jX jR hL qX qR qb2
                  obtain ⟨gR, lR, nR, mR⟩ := kR
                  obtain ⟨gX, lX, nX, mX⟩ := kX
                  go_wp2_with fail
                  refine bodyPost_ret (v := .agg (nine gk)) (results_cell_row Tryz.results80 _ _ (N + 1) 48 (nine gk) (0, 0) _ (by rfl) (by rw [← hget_eq]; go_simp) Tryz.underlying48 rfl (by rw [info_Num]; go_simp)) rfl ?_
                  have hWN := HN.out
                  exact ⟨by rw [← hv2, Nat.mod_eq_of_lt hlt], by repeat (first | exact Below.refl _ _ | exact below_new _ | exact b8.out | assumption | refine Below.drew ?_ | refine Below.drewN ?_ _ | refine below_alloc ?_ _ | refine below_blk' ?_ (by omega) _)⟩
                · rw [decide_eq_false hlt] at HLE
                  have HMI := hid (fun w => minus_nine gk pP w hv1 (by omega))
                  go_upto_region 34 with (fail)
                  refine wp_region_later (by kernel_rfl) (by kernel_rfl) ?_
                  repeat ((go_big_quiet_step ((first | (go_at_call 94; with_reducible exact calls_later (HPR.out _)) | (go_at_call 92; with_reducible exact calls_later (HLE.out _))))))
                  refine wpQuiet_nil ?_
                  intro wL hwL
                  obtain ⟨⟨w8, hL⟩, e8⟩ := hwL
                  change wL = w8 at e8
                  subst e8
                  have kX : Kept wL _ _ := kept (jX ⟨_, hL⟩)
                  have kR : Kept wL _ _ := kept (jR ⟨_, hL⟩)
                  have b8 := hid (below_to qb2.out hL)
                  clear jX jR hL qX qR qb2
                  have jX := kX.get
                  have jX := (kept kX.get).later
                  have jR := (kept kR.get).later
                  go_wp2_with fail
                  clear kX kR
                  refine wp_region_later_tail 3 (by kernel_rfl) (by kernel_rfl) ?_
                  simp only [List.take_succ_cons, List.take_zero, List.drop_succ_cons, List.drop_zero]
                  repeat ((go_big_quiet_step ((first | (go_at_call 94; with_reducible exact calls_later (HPR.out _)) | (go_at_call 95; with_reducible exact calls_later (HMI.out _))))))
                  refine wpQuiet_nil ?_
                  intro wL hwL
                  obtain ⟨⟨w8, hL⟩, e8⟩ := hwL
                  change wL = w8 at e8
                  subst e8
                  have kX : Kept wL _ _ := kept (jX ⟨_, hL⟩)
                  have kR : Kept wL _ _ := kept (jR ⟨_, hL⟩)
                  have b9 := hid (below_to b8.out hL)
                  clear jX jR hL b8
                  obtain ⟨gR, lR, nR, mR⟩ := kR
                  obtain ⟨gX, lX, nX, mX⟩ := kX
                  have hXN : (N + 1 = X) = False := by simp; omega
                  go_wp2_with fail
                  have hpp : 0 < pP := by decide
                  go_roundg (gk - pP)
                  case measure => omega
                  case rel => exact ⟨gk - pP, rfl, by omega, by rw [← hv2]; exact (Nat.mod_eq_sub_mod (by omega)).symm, by go_simp, by go_simp, below_blk' b9.out hWX _⟩

end Go.Proofs.YtceljjnohjnepaaGreatDoor

namespace Go.Proofs.YtceljjnohjnepaaGreatDoor
open Go.RowKit DG
attribute [local go_sem ↓] exl_Num exs_Num exl_A19 exs_A19
                 attribute [local go_sem] ldr_Num str_Num ldr_A19 str_A19
attribute [local go_sem] to_nine0

set_option maxRecDepth 100000 in
/-- One bit more in digits of w bits. -/
theorem bit_step {w n b k m : Nat} (hw : 0 < w) (hn : n < 2 ^ k) (hb : b < 2) (hk : k < w * m) :
    digs (2 ^ w) (n + b * 2 ^ k) m = (digs (2 ^ w) n m).set (k / w) ((digs (2 ^ w) n m).getD (k / w) 0 + b * 2 ^ (k % w)) ∧
      (digs (2 ^ w) n m).getD (k / w) 0 < 2 ^ (k % w) := by
  have hkm : k / w < m := Nat.div_lt_of_lt_mul hk
  have hrw : k % w < w := Nat.mod_lt _ hw
  have hpk : (2 : Nat) ^ k = (2 ^ w) ^ (k / w) * 2 ^ (k % w) := by rw [← Nat.pow_mul, ← Nat.pow_add, Nat.div_add_mod]
  have hg : (digs (2 ^ w) n m).getD (k / w) 0 < 2 ^ (k % w) := by
    rw [digs_getD n hkm]
    refine Nat.lt_of_le_of_lt (Nat.mod_le _ _) ?_
    exact Nat.div_lt_of_lt_mul (by rw [← hpk]; exact hn)
  refine ⟨?_, hg⟩
  have hB : 2 ^ (k + 1) ≤ (2 ^ w) ^ m := by rw [← Nat.pow_mul]; exact Nat.pow_le_pow_right (by decide) hk
  have hle : b * 2 ^ k ≤ 1 * 2 ^ k := Nat.mul_le_mul_right _ (by omega)
  have hsum : n + b * 2 ^ k < (2 ^ w) ^ m := by rw [Nat.pow_succ] at hB; omega
  have hn' : n < (2 ^ w) ^ m := by omega
  refine val_inj (B := 2 ^ w) (digs_all (Nat.two_pow_pos _) _ _) ?_ (by rw [digs_length, List.length_set, digs_length]) ?_
  · intro x hx
    rcases List.mem_or_eq_of_mem_set hx with h | h
    · exact digs_all (Nat.two_pow_pos _) _ _ x h
    · rw [h]
      have h1 : b * 2 ^ (k % w) ≤ 1 * 2 ^ (k % w) := Nat.mul_le_mul_right _ (by omega)
      have h2 : 2 ^ (k % w + 1) ≤ 2 ^ w := Nat.pow_le_pow_right (by decide) (by omega)
      rw [Nat.pow_succ] at h2
      omega
  · have hs := val_set (B := 2 ^ w) (l := digs (2 ^ w) n m) (j := k / w) (by rw [digs_length]; exact hkm) ((digs (2 ^ w) n m).getD (k / w) 0 + b * 2 ^ (k % w))
    rw [val_digs, Nat.mod_eq_of_lt hn', Nat.add_mul] at hs
    rw [val_digs, Nat.mod_eq_of_lt hsum, hpk]
    rw [Nat.mul_assoc, Nat.mul_comm (2 ^ (k % w))] at hs
    omega
set_option maxRecDepth 100000 in
theorem set_getD (l : List Nat) (k : Nat) : l.set k (l.getD k 0) = l := by
  rcases Nat.lt_or_ge k l.length with h | h
  · rw [getD_at h, List.set_getElem_self]
  · rw [List.set_eq_of_length_le h]
set_option maxRecDepth 100000 in
theorem mod_bit (n k : Nat) : n % 2 ^ (k + 1) = n % 2 ^ k + n / 2 ^ k % 2 * 2 ^ k := by rw [Nat.pow_succ, Nat.mod_mul, Nat.mul_comm]
set_option maxRecDepth 100000 in
theorem B30_pow : B30 = 2 ^ 30 := rfl
set_option maxRecDepth 100000 in
theorem and1_shr8 (x r : Nat) (hx : x < 256) : bits .and .u8 ((x : Int) / (2 : Int) ^ r) 1 = ((x / 2 ^ r % 2 : Nat) : Int) := by
  have e : ((x : Int) / (2 : Int) ^ r) = ((x / 2 ^ r : Nat) : Int) := by rw [Int.natCast_ediv, Int.natCast_pow]; rfl
  have hle : x / 2 ^ r ≤ x := Nat.div_le_self _ _
  rw [e, show (1 : Int) = ((1 : Nat) : Int) from rfl, u8_and_nat _ _ (by omega) (by decide), nat_mask1]
set_option maxRecDepth 100000 in
theorem bit_of_bytes (l : List UInt8) (m : Nat) (h : m < 8 * l.length) : bytesNat l / 2 ^ m % 2 = (l.getD (m / 8) 0).toNat / 2 ^ (m % 8) % 2 := by
  have := bit_digit (w := 8) (l := l.map (·.toNat)) (bytes_all l) m (by decide) (by simpa using h)
  unfold bytesNat
  rw [show (256 : Nat) = 2 ^ 8 from rfl, this]
  have hj : m / 8 < l.length := by omega
  simp [hj]
set_option maxRecDepth 100000 in
theorem cast_bit (d r : Nat) : ((d + 1 * 2 ^ r : Nat) : Int) = (d : Int) + (2 : Int) ^ r := by rw [Nat.one_mul, Int.natCast_add, Int.natCast_pow]; rfl
set_option maxRecDepth 100000 in
theorem or_bit (d r : Nat) (hd : d < 2 ^ r) (hr : r < 30) : bits .or .u64 (d : Int) (IntKind.u64.wrap (1 * (2 : Int) ^ r)) = ((d + 1 * 2 ^ r : Nat) : Int) := by
  have h1 : 2 ^ r < 2 ^ 30 := Nat.pow_lt_pow_right (by decide) hr
  rw [show (1 : Int) * (2 : Int) ^ r = ((1 * 2 ^ r : Nat) : Int) by rw [Int.natCast_mul, Int.natCast_pow]; rfl, IntWalk.u64_in _ (by omega), u64_or_nat _ _ (by omega) (by omega), Nat.or_comm, nat_join r _ _ (by rw [Nat.one_mul]; exact Nat.mod_self _) hd, Nat.add_comm]

set_option maxRecDepth 100000 in
set_option maxHeartbeats 1000000 in
theorem ref_Read (s : ByteArray) (W : World) (hs : s.size ≤ 33) : Calls Tryz.prog 93 #[.string s] W fun e w' => e = .returned (.agg (nine (bytesNat s.data.toList))) ∧ Below W.heap.size W w' := by
  obtain ⟨n0, hn0⟩ : ∃ n0, bytesNat s.data.toList = n0 := ⟨_, rfl⟩
  have hlt : n0 < 2 ^ (8 * s.size) := by
    rw [← hn0]
    have := bytesNat_lt s.data.toList
    rwa [show s.data.toList.length = s.size from by simp, show (256 : Nat) = 2 ^ 8 from rfl, ← Nat.pow_mul] at this
  have HLT := hid hlt
  have HN0 := hid hn0
  clear hlt hn0
  go_enter Tryz.func93, Tryz.ntmps93
  go_wp2_with fail
  obtain ⟨N, hN⟩ : ∃ N, N = W.heap.size := ⟨_, rfl⟩
  rw [← hN]
  have HN := hid hN
  go_loopw [4] (fun i wr => ∃ k : Nat, k ≤ 8 * s.size ∧ i = .int .i64 (k : Int) ∧ wr.heap[N]? = some (.cells (nine 0) 48 (0, 0)) ∧ wr.heap[N + 1]? = some (.cells (ints .u64 (digs B30 (n0 % 2 ^ k) 9)) 48 (0, 0)) ∧ Below W.heap.size W wr) (fun i _ => (8 * s.size - intOf i).toNat)
  case atStart => exact ⟨0, by omega, rfl, alloc_old (alloc_at' hN _), by rw [Nat.pow_zero, Nat.mod_one]; exact alloc_at' (by simp [hN]) _, below_alloc (below_new _) _⟩
  case round =>
    clear hN
    obtain ⟨k, hk, rfl, rZ, rC, rb⟩ := hrel
    have RZ := hid rZ
    have RBE := hid rb
    clear rZ rb
    have hsi : (s.size : Int) ≤ 33 := by omega
    by_cases hkl : k < 8 * s.size
    · have hkd : decide ((k : Int) < 8 * (s.size : Int)) = true := decide_eq_true (by omega)
      have hml : k / 8 < s.size := by omega
      have hi0 : 0 ≤ (k : Int) / 8 := by omega
      have hi1 : (k : Int) / 8 < s.size := by omega
      have hi2 : ((k : Int) / 8).toNat = k / 8 := by omega
      have hbit := bit_of_bytes s.data.toList k (by simp; omega)
      have hg : s.data.toList.getD (k / 8) 0 = s[k / 8] := by simp [hml]; rfl
      rw [HN0.out, hg] at hbit
      have hbyte := and1_shr8 s[k / 8].toNat (k % 8) s[k / 8].toNat_lt
      rw [← hbit] at hbyte
      obtain ⟨bit, hbt⟩ : ∃ bit, n0 / 2 ^ k % 2 = bit := ⟨_, rfl⟩
      have hb1 : bit < 2 := by omega
      have hmb := mod_bit n0 k
      rw [hbt] at hbyte hmb
      obtain ⟨hst, hglt⟩ := bit_step (w := 30) (n := n0 % 2 ^ k) (b := bit) (k := k) (m := 9) (by decide) (Nat.mod_lt _ (Nat.two_pow_pos _)) hb1 (by omega)
      rw [← hmb, ← B30_pow] at hst
      rw [← B30_pow] at hglt
      have HST := hid hst
      have hj0 : 0 ≤ (k : Int) / 30 := by omega
      have hj1 : (k : Int) / 30 < 9 := by omega
      have hj2 : ((k : Int) / 30).toNat = k / 30 := by omega
      have cj := ints_cell rC (j := k / 30) (by rw [digs_length]; omega)
      have hf := free_at rC
      obtain ⟨c, hc⟩ : ∃ c, digs B30 (n0 % 2 ^ k) 9 = c := ⟨_, rfl⟩
      obtain ⟨d, hd⟩ : ∃ d, c.getD (k / 30) 0 = d := ⟨_, rfl⟩
      rw [hc] at HST hglt rC cj
      rw [hd] at HST hglt cj
      have RC := hid rC
      have hd' := hid hd
      clear hbt hbit hmb hst hc hd rC
      have hor := or_bit d (k % 30) hglt (Nat.mod_lt _ (by decide))
      rw [Int.one_mul] at hor
      obtain rfl | rfl : bit = 0 ∨ bit = 1 := by omega
      · have hby : (bits .and .u8 ((s[k / 8].toNat : Int) / (2 : Int) ^ (k % 8)) 1 == 1) = false := by rw [hbyte]; rfl
        clear hbyte hor
        go_wp2_with fail
        have hcd : c.set (k / 30) d = c := by rw [← hd'.out]; exact set_getD c _
        have hst : digs B30 (n0 % 2 ^ (k + 1)) 9 = c := by rw [HST.out, Nat.zero_mul, Nat.add_zero]; exact hcd
        exact ⟨⟨k + 1, by omega, by go_num, RZ.out, by rw [hst]; exact RC.out, RBE.out⟩, by simp [intOf]; omega⟩
      · have hby : (bits .and .u8 ((s[k / 8].toNat : Int) / (2 : Int) ^ (k % 8)) 1 == 1) = true := by rw [hbyte]; rfl
        clear hbyte
        go_wp2_with fail
        refine ⟨⟨k + 1, by omega, by go_num, at_setCell_other RZ.out (by simp) _, ?_, RBE.out.setCell (by have := HN.out; simp; omega) _⟩, by simp [intOf]; omega⟩
        rw [HST.out, ← cast_bit]
        exact ints_store RC.out _ _
    · have hkd : decide ((k : Int) < 8 * (s.size : Int)) = false := decide_eq_false (by omega)
      have hk9 : k = 8 * s.size := by omega
      rw [hk9, Nat.mod_eq_of_lt HLT.out] at rC
      have gC : hget wr (N + 1) = some (.cells (nine n0) 48 (0, 0)) := rC
      have gZ : hget wr N = some (.cells (nine 0) 48 (0, 0)) := RZ.out
      have lZ := hget_lt gZ
      clear rC RZ hk9
      go_wp2_with fail
      refine bodyPost_ret (v := .agg (nine n0)) (results_cell_row Tryz.results93 _ _ (N) 48 (nine n0) (0, 0) _ (by rfl) (by rw [← hget_eq]; go_simp) Tryz.underlying48 rfl (by rw [info_Num]; go_simp)) rfl ?_
      have hWN := HN.out
      exact ⟨by rw [HN0.out], by repeat (first | exact Below.refl _ _ | exact below_new _ | exact RBE.out | assumption | refine Below.drew ?_ | refine Below.drewN ?_ _ | refine below_alloc ?_ _ | refine below_blk' ?_ (by omega) _)⟩


set_option maxRecDepth 100000 in
/-- What a sum of rows is. -/
theorem mW_of {l : List Nat} (h : All 2147483648 l) : All mW l := h.mono (by decide)

set_option maxRecDepth 100000 in
set_option maxHeartbeats 1000000 in
theorem ref_Of (s : ByteArray) (W : World) (hs : s.size ≤ 33) : Calls Tryz.prog 71 #[.string s] W fun e w' => e = .returned (.agg (nine (bytesNat s.data.toList % pP))) ∧ Below W.heap.size W w' := by
  have hrd := hid (fun w => ref_Read s w hs)
  have hlt : bytesNat s.data.toList < 29642774844752946028434172162224104410437116074403984394101141506025761187823616 := by
    have := bytesNat_lt s.data.toList
    rw [show s.data.toList.length = s.size from by simp] at this
    exact Nat.lt_of_lt_of_le this (by rw [show (29642774844752946028434172162224104410437116074403984394101141506025761187823616 : Nat) = 256 ^ 33 by decide]; exact Nat.pow_le_pow_right (by decide) hs)
  obtain ⟨n0, hn0⟩ : ∃ n0, bytesNat s.data.toList = n0 := ⟨_, rfl⟩
  rw [hn0] at hrd hlt
  have HN0 := hid hn0
  have hv9 : val B30 (digs B30 n0 9) = n0 := val_nine (by omega)
  have hall := digs_all (B := B30) (by decide) n0 9
  have hl9 := digs_length (B := B30) n0 9
  have HRD := hrd.out
  unfold nine at HRD
  obtain ⟨c, hc⟩ : ∃ c, digs B30 n0 9 = c := ⟨_, rfl⟩
  simp only [hc] at HRD
  rw [hc] at hv9 hall hl9
  have HR := hid HRD
  have hsc : (ints .u64 c).size = 9 := by rw [ints_size, hl9]
  have hoc : ones (ints .u64 c) = true := rows_one _ _
  have HV := hid hv9
  clear hn0 hrd hc HRD hv9
  go_enter Tryz.func71, Tryz.ntmps71
  go_upto_region 2 with (fail)
  obtain ⟨w1, hw1⟩ : ∃ w1, (W.alloc (.cells (nine 0) 48)).alloc (.cells (ints .u64 [0, 0, 0, 0, 0, 0, 0, 0, 0, 0, 0, 0, 0, 0, 0, 0, 0, 0, 0]) 112) = w1 := ⟨_, rfl⟩
  obtain ⟨N, hN⟩ : ∃ N, W.heap.size = N := ⟨_, rfl⟩
  have fZ : hget w1 N = some (.cells (nine 0) 48 (0, 0)) := by rw [← hw1, ← hN]; exact alloc_old (alloc_at _ _)
  have fT : hget w1 (N + 1) = some (.cells (ints .u64 [0, 0, 0, 0, 0, 0, 0, 0, 0, 0, 0, 0, 0, 0, 0, 0, 0, 0, 0]) 112 (0, 0)) := by rw [← hw1, ← hN]; exact alloc_at' (by simp) _
  have b1 : Hid (Below W.heap.size W w1) := by rw [← hw1]; repeat (first | exact Below.refl _ _ | exact below_new _ | assumption | refine Below.drew ?_ | refine Below.drewN ?_ _ | refine below_alloc ?_ _)
  change Code.wp _ _ _ _ ((W.alloc (.cells (nine 0) 48)).alloc (.cells (ints .u64 [0, 0, 0, 0, 0, 0, 0, 0, 0, 0, 0, 0, 0, 0, 0, 0, 0, 0, 0]) 112))
  rw [hw1, hN]
  have HN := hid hN
  clear hw1 hN
  go_wp2_with fail
  refine (HR.out _).mono ?_
  rintro e w2 ⟨rfl, hb2⟩
  have kZ := Kept.on (kept (b := N) (o := .cells (nine 0) 48 (0, 0)) (by go_simp)) hb2
  have kT := Kept.on (kept (b := N + 1) (o := .cells (ints .u64 [0, 0, 0, 0, 0, 0, 0, 0, 0, 0, 0, 0, 0, 0, 0, 0, 0, 0, 0]) 112 (0, 0)) (by go_simp)) hb2
  have b2 : Hid (Below W.heap.size W w2) := below_to (by repeat (first | exact Below.refl _ _ | exact below_new _ | exact b1.out | assumption | refine Below.drew ?_ | refine Below.drewN ?_ _ | refine below_alloc ?_ _ | refine below_blk' ?_ (by omega) _)) hb2
  clear hb2
  try clear gZ lZ nZ mZ
  obtain ⟨gZ, lZ, nZ, mZ⟩ := kZ
  try clear gT lT nT mT
  obtain ⟨gT, lT, nT, mT⟩ := kT
  clear b1
  clear fZ fT
  go_wp2_with fail
  obtain ⟨X, hX⟩ : ∃ X, w2.heap.size = X := ⟨_, rfl⟩
  obtain ⟨w3, hw3⟩ : ∃ w3, w2.alloc (.cells (ints .u64 c) 48) = w3 := ⟨_, rfl⟩
  have fZ : w3.heap[N]? = some (.cells (nine 0) 48 (0, 0)) := by rw [← hw3]; exact alloc_old gZ
  have fT : w3.heap[N + 1]? = some (.cells (ints .u64 [0, 0, 0, 0, 0, 0, 0, 0, 0, 0, 0, 0, 0, 0, 0, 0, 0, 0, 0]) 112 (0, 0)) := by rw [← hw3]; exact alloc_old gT
  have fC : w3.heap[X]? = some (.cells (ints .u64 c) 48 (0, 0)) := by rw [← hw3, ← hX]; exact alloc_at _ _
  have b3 : Hid (Below W.heap.size W w3) := by rw [← hw3]; exact below_alloc b2.out _
  have hNX : N + 1 < X := by rw [← hX]; exact lT
  rw [hw3, hX]
  clear hw3 hX gZ gT lZ lT nZ nT mZ mT b2
  go_loopw [5] (fun i wr => ∃ (k : Nat) (t : List Nat), k ≤ 9 ∧ i = .int .i64 (k : Int) ∧ t.length = 19 ∧ All 2147483648 t ∧ val B30 t = val B30 (c.take k) ∧ (∀ m, k ≤ m → t.getD m 0 = 0) ∧ wr.heap[N]? = some (.cells (nine 0) 48 (0, 0)) ∧ wr.heap[N + 1]? = some (.cells (ints .u64 t) 112 (0, 0)) ∧ wr.heap[X]? = some (.cells (ints .u64 c) 48 (0, 0)) ∧ Below W.heap.size W wr) (fun i _ => (9 - intOf i).toNat)
  case atStart => exact ⟨0, [0, 0, 0, 0, 0, 0, 0, 0, 0, 0, 0, 0, 0, 0, 0, 0, 0, 0, 0], by omega, rfl, rfl, by exact all_replicate 19 (by decide), by simp [val], fun m _ => by (match m with | 0 | 1 | 2 | 3 | 4 | 5 | 6 | 7 | 8 | 9 | 10 | 11 | 12 | 13 | 14 | 15 | 16 | 17 | 18 => rfl | m + 19 => simp), fZ, fT, fC, b3.out⟩
  case round =>
    clear fZ fT fC b3
    obtain ⟨k, t, hk, rfl, htl, hta, hv, hz, qZ, qT, qC, qb⟩ := hrel
    have HVV := hid hv
    have HZZ := hid hz
    have QZ := hid qZ
    have QBE := hid qb
    clear hv hz qZ qb
    by_cases hk9 : k < 9
    · have hkd : decide ((k : Int) < 9) = true := decide_eq_true (by omega)
      have cj := ints_cell qC (j := k) (by omega)
      have ck := ints_cell qT (j := k) (by omega)
      have hf := free_at qT
      have hi0 : 0 ≤ (k : Int) := by omega
      have hi1 : (k : Int) < 19 := by omega
      have hi2 : (k : Int) < 9 := by omega
      have hx1 : c.getD k 0 < 1073741824 := hall.getD (by omega)
      obtain ⟨x, hx⟩ : ∃ x, c.getD k 0 = x := ⟨_, rfl⟩
      rw [hx] at cj hx1
      have HX := hid hx
      have QT := hid qT
      have QC := hid qC
      clear hx qT qC
      go_wp2_with fail
      refine ⟨⟨k + 1, t.set k x, by omega, by go_num, by simp [htl], All.set hta _ (by omega), ?_, fun m hm => ?_, at_setCell_other QZ.out (by simp) _, ints_store QT.out _ _, at_setCell_other QC.out (by simp; omega) _, QBE.out.setCell (by have := HN.out; simp; omega) _⟩, by simp [intOf]; omega⟩
      · have h1 := val_set (B := B30) (l := t) (j := k) (by omega) x
        rw [HZZ.out k (Nat.le_refl _), Nat.zero_mul, Nat.add_zero, HVV.out] at h1
        rw [h1, val_take_succ c k (by omega), HX.out]
      · have h0 := HZZ.out m (by omega); simp only [List.getD_eq_getElem?_getD] at h0 ⊢; rw [List.getElem?_set_ne (by omega)]; exact h0
    · have hkd : decide ((k : Int) < 9) = false := decide_eq_false (by omega)
      have hk10 : k = 9 := by omega
      have hv := HVV.out
      rw [hk10, List.take_of_length_le (by omega), HV.out] at hv
      have hst : (ints .u64 t).size = 19 := by rw [ints_size, htl]
      have hot : ones (ints .u64 t) = true := rows_one _ _
      have hrr := hid (fun w => ref_reduce t w htl (mW_of hta) (by rw [hv]; exact Nat.lt_trans hlt (by decide)))
      rw [hv] at hrr
      have gT : hget wr (N + 1) = some (.cells (ints .u64 t) 112 (0, 0)) := qT
      have gZ : hget wr N = some (.cells (nine 0) 48 (0, 0)) := QZ.out
      obtain ⟨z, hz⟩ : ∃ z, n0 % pP = z := ⟨_, rfl⟩
      rw [hz] at hrr
      have HZ := hid hz
      clear qT qC QZ hv hk10 HVV HZZ hz hta
      go_wp2_with fail
      refine (hrr.out _).mono ?_
      rintro e w4 ⟨rfl, hb4⟩
      have kZ := Kept.on (kept (b := N) (o := .cells (nine 0) 48 (0, 0)) (by go_simp)) hb4
      have b4 : Hid (Below W.heap.size W w4) := below_to (by repeat (first | exact Below.refl _ _ | exact below_new _ | exact QBE.out | assumption | refine Below.drew ?_ | refine Below.drewN ?_ _ | refine below_alloc ?_ _ | refine below_blk' ?_ (by omega) _)) hb4
      clear hb4
      try clear gZ lZ nZ mZ
      obtain ⟨gZ, lZ, nZ, mZ⟩ := kZ
      clear QBE
      clear gT
      go_wp2_with fail
      refine bodyPost_ret (v := .agg (nine z)) (results_cell_row Tryz.results71 _ _ (N) 48 (nine z) (0, 0) _ (by rfl) (by rw [← hget_eq]; go_simp) Tryz.underlying48 rfl (by rw [info_Num]; go_simp)) rfl ?_
      have hWN := HN.out
      exact ⟨by rw [HN0.out, HZ.out], by repeat (first | exact Below.refl _ _ | exact below_new _ | exact b4.out | assumption | refine Below.drew ?_ | refine Below.drewN ?_ _ | refine below_alloc ?_ _ | refine below_blk' ?_ (by omega) _)⟩

end Go.Proofs.YtceljjnohjnepaaGreatDoor
