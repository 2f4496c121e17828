/- The walks of the document's numbers: Read, Of, Small, Add, Sub. The walks of the document's numbers: Small, Add, Sub, Mul. A region that draws its order, in which one operation stores, and the others leave the world alone, before it and (those that it does not wait for) behind it: one walk in the order of the text. Arrays of numbers: an element, and whether two are the same. The walk of the numbers' product. The walks of the numbers: Of. A world that is as it was, but for some blocks and what is new. Bytes in memory: texts to bytes and back, a row of bytes that is appended to. The walks of the numbers: top, below. -/
import Derived.Test.YtceljjnohjnepaaDoorM02
import Derived.Test.YtceljjnohjnepaaDoorM01
import Derived.Still
import Derived.Lib.ConvBytes
namespace Go.Proofs.YtceljjnohjnepaaDoor
open Go.RowKit DG


attribute [local go_sem] to_nine0

set_option maxRecDepth 100000 in
/-- One bit more in digits of w bits. -/
theorem bit_step {w n b k m : Nat} (hw : 0 < w) (hn : n < 2 ^ k) (hb : b < 2) (hk : k < w * m) :
    digs (2 ^ w) (n + b * 2 ^ k) m = (digs (2 ^ w) n m).set (k / w) ((digs (2 ^ w) n m).getD (k / w) 0 + b * 2 ^ (k % w)) ∧
      (digs (2 ^ w) n m).getD (k / w) 0 < 2 ^ (k % w) := by
  have hkm : k / w < m := Nat.div_lt_of_lt_mul hk
  have hrw : k % w < w := Nat.mod_lt _ hw
  have hpk : (2 : Nat) ^ k = (2 ^ w) ^ (k / w) * 2 ^ (k % w) := by rw [← Nat.pow_mul, ← Nat.pow_add, Nat.div_add_mod]
  have hg : (digs (2 ^ w) n m).getD (k / w) 0 < 2 ^ (k % w) := by
    rw [digs_getD n hkm]
    refine Nat.lt_of_le_of_lt (Nat.mod_le _ _) ?_
    exact Nat.div_lt_of_lt_mul (by rw [← hpk]; exact hn)
  refine ⟨?_, hg⟩
  have hB : 2 ^ (k + 1) ≤ (2 ^ w) ^ m := by rw [← Nat.pow_mul]; exact Nat.pow_le_pow_right (by decide) hk
  have hle : b * 2 ^ k ≤ 1 * 2 ^ k := Nat.mul_le_mul_right _ (by omega)
  have hsum : n + b * 2 ^ k < (2 ^ w) ^ m := by rw [Nat.pow_succ] at hB; omega
  have hn' : n < (2 ^ w) ^ m := by omega
  refine val_inj (B := 2 ^ w) (digs_all (Nat.two_pow_pos _) _ _) ?_ (by rw [digs_length, List.length_set, digs_length]) ?_
  · intro x hx
    rcases List.mem_or_eq_of_mem_set hx with h | h
    · exact digs_all (Nat.two_pow_pos _) _ _ x h
    · rw [h]
      have h1 : b * 2 ^ (k % w) ≤ 1 * 2 ^ (k % w) := Nat.mul_le_mul_right _ (by omega)
      have h2 : 2 ^ (k % w + 1) ≤ 2 ^ w := Nat.pow_le_pow_right (by decide) (by omega)
      rw [Nat.pow_succ] at h2
      omega
  · have hs := val_set (B := 2 ^ w) (l := digs (2 ^ w) n m) (j := k / w) (by rw [digs_length]; exact hkm) ((digs (2 ^ w) n m).getD (k / w) 0 + b * 2 ^ (k % w))
    rw [val_digs, Nat.mod_eq_of_lt hn', Nat.add_mul] at hs
    rw [val_digs, Nat.mod_eq_of_lt hsum, hpk]
    rw [Nat.mul_assoc, Nat.mul_comm (2 ^ (k % w))] at hs
    omega
set_option maxRecDepth 100000 in
theorem set_getD (l : List Nat) (k : Nat) : l.set k (l.getD k 0) = l := by
  rcases Nat.lt_or_ge k l.length with h | h
  · rw [getD_at h, List.set_getElem_self]
  · rw [List.set_eq_of_length_le h]
set_option maxRecDepth 100000 in
theorem mod_bit (n k : Nat) : n % 2 ^ (k + 1) = n % 2 ^ k + n / 2 ^ k % 2 * 2 ^ k := by rw [Nat.pow_succ, Nat.mod_mul, Nat.mul_comm]
set_option maxRecDepth 100000 in
theorem B30_pow : B30 = 2 ^ 30 := rfl
set_option maxRecDepth 100000 in
theorem and1_shr8 (x r : Nat) (hx : x < 256) : bits .and .u8 ((x : Int) / (2 : Int) ^ r) 1 = ((x / 2 ^ r % 2 : Nat) : Int) := by
  have e : ((x : Int) / (2 : Int) ^ r) = ((x / 2 ^ r : Nat) : Int) := by rw [Int.natCast_ediv, Int.natCast_pow]; rfl
  have hle : x / 2 ^ r ≤ x := Nat.div_le_self _ _
  rw [e, show (1 : Int) = ((1 : Nat) : Int) from rfl, u8_and_nat _ _ (by omega) (by decide), nat_mask1]
set_option maxRecDepth 100000 in
theorem bit_of_bytes (l : List UInt8) (m : Nat) (h : m < 8 * l.length) : bytesNat l / 2 ^ m % 2 = (l.getD (m / 8) 0).toNat / 2 ^ (m % 8) % 2 := by
  have := bit_digit (w := 8) (l := l.map (·.toNat)) (bytes_all l) m (by decide) (by simpa using h)
  unfold bytesNat
  rw [show (256 : Nat) = 2 ^ 8 from rfl, this]
  have hj : m / 8 < l.length := by omega
  simp [hj]
set_option maxRecDepth 100000 in
theorem cast_bit (d r : Nat) : ((d + 1 * 2 ^ r : Nat) : Int) = (d : Int) + (2 : Int) ^ r := by rw [Nat.one_mul, Int.natCast_add, Int.natCast_pow]; rfl
set_option maxRecDepth 100000 in
theorem or_bit (d r : Nat) (hd : d < 2 ^ r) (hr : r < 30) : bits .or .u64 (d : Int) (IntKind.u64.wrap (1 * (2 : Int) ^ r)) = ((d + 1 * 2 ^ r : Nat) : Int) := by
  have h1 : 2 ^ r < 2 ^ 30 := Nat.pow_lt_pow_right (by decide) hr
  rw [show (1 : Int) * (2 : Int) ^ r = ((1 * 2 ^ r : Nat) : Int) by rw [Int.natCast_mul, Int.natCast_pow]; rfl, IntWalk.u64_in _ (by omega), u64_or_nat _ _ (by omega) (by omega), Nat.or_comm, nat_join r _ _ (by rw [Nat.one_mul]; exact Nat.mod_self _) hd, Nat.add_comm]

set_option maxRecDepth 100000 in
/-- What a sum of rows is. -/
theorem mW_of {l : List Nat} (h : All 2147483648 l) : All mW l := h.mono (by decide)

end Go.Proofs.YtceljjnohjnepaaDoor

namespace Go.Proofs.YtceljjnohjnepaaDoor
open Go.RowKit DG



set_option maxRecDepth 100000 in
theorem small_row (n : Nat) (h : n < 4294967296) : nine n = #[.int .u64 ((n % 1073741824 : Nat) : Int), .int .u64 ((n / 1073741824 : Nat) : Int), .int .u64 0, .int .u64 0, .int .u64 0, .int .u64 0, .int .u64 0, .int .u64 0, .int .u64 0] := by
  have e1 : n / 1073741824 % 1073741824 = n / 1073741824 := Nat.mod_eq_of_lt (by omega)
  have e2 : n / 1073741824 / 1073741824 = 0 := by omega
  unfold nine B30
  simp only [digs, e2, Nat.zero_div, Nat.zero_mod, e1]
  rfl
attribute [local go_sem] to_nine0

end Go.Proofs.YtceljjnohjnepaaDoor

namespace Go.Proofs.YtceljjnohjnepaaDoor
open Go Go.RowKit

section
variable {P : Program} {ops : Array Oper} {md : Region.Mode} {s : Nat} {w0 w1 : World}

/-- From one world into another one, with this value. -/
def goesS (P : Program) (w w' : World) (v : Value) : Result Next → Prop
  | .ok (.value u) x => x = w' ∧ u = v
  | .ok .skip x => x = w' ∧ v = undef
  | .ok (.enter f args) x => x = w ∧ w' = w ∧ Calls P f args w (fun e w'' => e = .returned v ∧ w'' = w)
  | _ => False
/-- What is asked of the operation of this number. -/
def waits (ops : Array Oper) (s i : Nat) : Bool := match ops[s]? with | some os => os.after.toList.any fun e => Region.binds .any e && e.on == i | none => false
def AskedS (P : Program) (ops : Array Oper) (s : Nat) (w0 w1 : World) (i : Nat) (e : Sem Next) (v : Value) : Prop :=
  if i = s then goesS P w0 w1 v (e.run P w0) else goesS P w0 w0 v (e.run P w0) ∧ (waits ops s i = true ∨ goesS P w1 w1 v (e.run P w1))
def DoesS (P : Program) (ops : Array Oper) (s : Nat) (w0 w1 : World) (i : Nat) (o : Oper) (v : Value) (a : Act) : Prop :=
  (Region.wanted o (yielded ops a.tmps) = true ∧ AskedS P ops s w0 w1 i (execOp a.eval o) v) ∨ (Region.wanted o (yielded ops a.tmps) = false ∧ v = undef ∧ i ≠ s)
/-- The walk in the order of the text. -/
def wpStf (P : Program) (ops : Array Oper) (s : Nat) (w0 w1 : World) (Q : Act → Prop) : Nat → List Oper → Act → Prop
  | _, [], a => Q a
  | i, o :: rest, a => ∃ v, DoesS P ops s w0 w1 i o v a ∧ wpStf P ops s w0 w1 Q (i + 1) rest (a.put o.dst v)
def sfOp (P : Program) (ops : Array Oper) (s : Nat) (w0 w1 : World) (i : Nat) (K : Act → Prop) (a : Act) : Prop :=
  match ops[i]? with
  | none => K a
  | some o => ∃ v, DoesS P ops s w0 w1 i o v a ∧ K (a.put o.dst v)
set_option maxRecDepth 100000 in
theorem sfOp_mono {i : Nat} {a : Act} {K K' : Act → Prop} (h : ∀ a, K a → K' a) (hh : sfOp P ops s w0 w1 i K a) : sfOp P ops s w0 w1 i K' a := by
  unfold sfOp at *
  split
  · exact h _ (by simpa [*] using hh)
  · rename_i o ho
    simp only [ho] at hh
    obtain ⟨v, h1, h2⟩ := hh
    exact ⟨v, h1, h _ h2⟩
def wpAnyS (P : Program) (md : Region.Mode) (ops : Array Oper) (s : Nat) (w0 w1 : World) (Q : Array Bool → Act → Prop) : Nat → Array Bool → Act → Prop
  | 0, listed, a => Region.ready md ops listed = [] ∧ Q listed a
  | fuel + 1, listed, a =>
    (Region.ready md ops listed = [] → Q listed a) ∧
    ∀ i ∈ Region.ready md ops listed, sfOp P ops s w0 w1 i (wpAnyS P md ops s w0 w1 Q fuel (listed.setIfInBounds i true)) a
set_option maxRecDepth 100000 in
theorem DoesS.of_same {i : Nat} {o : Oper} {v : Value} {a a' : Act} (hy : DoesS P ops s w0 w1 i o v a) (he : execOp a'.eval o = execOp a.eval o)
    (hw : Region.wanted o (yielded ops a'.tmps) = Region.wanted o (yielded ops a.tmps)) : DoesS P ops s w0 w1 i o v a' := by
  unfold DoesS at *
  rw [he, hw]
  exact hy
set_option maxRecDepth 100000 in
theorem sfOp_put {i j : Nat} {oi oj : Oper} {v : Value} (hj : ops[j]? = some oj) (hap : oi.apart ops oj = true)
    (hsi : ∀ cs b, oi.op ≠ .select cs b) (hsj : ∀ cs b, oj.op ≠ .select cs b) {K : Act → Prop} {a : Act}
    (hy : DoesS P ops s w0 w1 i oi v a) (h : sfOp P ops s w0 w1 j K (a.put oi.dst v)) :
    sfOp P ops s w0 w1 j (fun a' => DoesS P ops s w0 w1 i oi v a' ∧ K (a'.put oi.dst v)) a := by
  obtain ⟨h1, h2, h3⟩ := Oper.apart_spec hap
  unfold sfOp at *
  simp only [hj] at *
  obtain ⟨u, hu, hn⟩ := h
  refine ⟨u, hu.of_same (execOp_put oj hsj a oi.dst v h1).symm (wanted_put oj a oi.dst v h1).symm, hy.of_same (execOp_put oi hsi a oj.dst u h3) (wanted_put oi a oj.dst u h3), ?_⟩
  rw [← Act.put_comm a v u h2]
  exact hn
set_option maxRecDepth 100000 in
theorem wpAnyS_first {Q : Array Bool → Act → Prop} {i : Nat} {oi : Oper} {v : Value} (hi : ops[i]? = some oi) (hsel : ∀ (j : Nat) (o : Oper) cs b, ops[j]? = some o → o.op ≠ .select cs b) :
    ∀ (fuel : Nat) (listed : Array Bool) (a : Act),
      (∀ j oj, ops[j]? = some oj → j ≠ i → listed.getD j true = false → (∀ e ∈ oj.after, Region.binds md e = true → e.on ≠ i) → oi.apart ops oj = true) →
      i ∈ Region.ready md ops listed → DoesS P ops s w0 w1 i oi v a →
      wpAnyS P md ops s w0 w1 Q fuel (listed.setIfInBounds i true) (a.put oi.dst v) → wpAnyS P md ops s w0 w1 Q (fuel + 1) listed a := by
  intro fuel
  have take : ∀ {K : Act → Prop} {a : Act}, DoesS P ops s w0 w1 i oi v a → K (a.put oi.dst v) → sfOp P ops s w0 w1 i K a := fun hy h => by
    unfold sfOp; simp only [hi]; exact ⟨v, hy, h⟩
  induction fuel with
  | zero =>
    intro listed a _ hr hy H
    refine ⟨fun h => (by rw [h] at hr; cases hr), fun j hj => ?_⟩
    by_cases hji : j = i
    · subst hji; exact take hy H
    · have := ready_mono hj hji
      rw [H.1] at this
      cases this
  | succ fuel ih =>
    intro listed a hfree hr hy H
    refine ⟨fun h => (by rw [h] at hr; cases hr), fun j hj => ?_⟩
    by_cases hji : j = i
    · subst hji; exact take hy H
    · have h1 := H.2 j (ready_mono hj hji)
      obtain ⟨hjun, oj, hoj, hall⟩ := mem_ready.1 hj
      have hnot : ∀ e ∈ oj.after, Region.binds md e = true → e.on ≠ i := fun e he hb heq => by
        have h1 := hall e he hb
        have h0 := (mem_ready.1 hr).1
        rw [heq] at h1
        rcases Nat.lt_or_ge i listed.size with h' | h'
        · simp [h'] at h0 h1; rw [h0] at h1; cases h1
        · simp [Array.getElem?_eq_none h'] at h1
      have h2 := sfOp_put hoj (hfree j oj hoj hji hjun hnot) (fun cs b => hsel i oi cs b hi) (fun cs b => hsel j oj cs b hoj) hy h1
      have hfree' : ∀ m om, ops[m]? = some om → m ≠ i → (listed.setIfInBounds j true).getD m true = false →
          (∀ e ∈ om.after, Region.binds md e = true → e.on ≠ i) → oi.apart ops om = true := fun m om hm hmi hun hno => by
        refine hfree m om hm hmi ?_ hno
        by_cases hjm : j = m
        · subst hjm; exact hjun
        · rw [getD_set_ne true hjm] at hun; exact hun
      refine sfOp_mono (fun a' h3 => ih (listed.setIfInBounds j true) a' hfree' (ready_mono hr (Ne.symm hji)) h3.1 ?_) h2
      rw [Array.setIfInBounds_comm _ _ hji]
      exact h3.2
set_option maxRecDepth 100000 in
theorem wpAnyS_lex {Q : Act → Prop} (hs : Region.noSelect ops = true) : ∀ (l : List Oper) (m : Nat) (listed : Array Bool) (a : Act), (∀ j, l[j]? = ops[m + j]?) → listed.size = ops.size → (∀ j, j < m → j < ops.size → listed.getD j false = true) →
    Region.lexFrom md ops l.length m listed = true → wpStf P ops s w0 w1 Q m l a → wpAnyS P md ops s w0 w1 (fun listed a => (s < ops.size → listed.getD s false = true) ∧ Q a) l.length listed a
  | [], m, listed, _, hl, hz, hd, hB, h => ⟨by simpa [Region.lexFrom] using hB, fun hsz => hd s (by
      rcases Nat.lt_or_ge s m with h1 | h1
      · exact h1
      · have := hl (s - m)
        rw [show m + (s - m) = s by omega, Array.getElem?_eq_getElem hsz] at this
        cases this) hsz, h⟩
  | o :: l, m, listed, a, hl, hz, hd, hB, h => by
    have h0 : ops[m]? = some o := by simpa using (hl 0).symm
    have hml : m < ops.size := (Array.getElem?_eq_some_iff.1 h0).1
    simp only [List.length_cons, Region.lexFrom, Bool.and_eq_true] at hB
    obtain ⟨⟨hr, hf⟩, hB'⟩ := hB
    obtain ⟨v, hy, hK⟩ := h
    refine wpAnyS_first h0 (Region.noSelect_spec hs) l.length listed a (Region.free_spec h0 hf) (by simpa using hr) hy
      (wpAnyS_lex hs l (m + 1) _ _ (fun j => by have := hl (j + 1); simpa [Nat.add_assoc, Nat.add_comm 1 j] using this) (by simpa using hz) (fun j hj hjs => ?_) hB' hK)
    by_cases hjm : j = m
    · subst hjm; simp [hz, hml]
    · exact getD_set_true (hd j (by omega) hjs)
/-- What came up before what waits for it. -/
def ClosedS (md : Region.Mode) (ops : Array Oper) (listed : Array Bool) : Prop := ∀ j oj, ops[j]? = some oj → listed.getD j false = true → ∀ e ∈ oj.after, Region.binds md e = true → listed.getD e.on false = true
def atS (s : Nat) (w0 w1 : World) (listed : Array Bool) : World := if listed.getD s false then w1 else w0
set_option maxRecDepth 100000 in
theorem getD_fs {listed : Array Bool} {i : Nat} (h : listed.getD i true = false) : listed.getD i false = false ∧ i < listed.size := by
  rcases Nat.lt_or_ge i listed.size with h' | h'
  · simp [h'] at h ⊢; exact h
  · simp [Array.getElem?_eq_none h'] at h
set_option maxRecDepth 100000 in
theorem ClosedS.set {listed : Array Bool} {i : Nat} (h : ClosedS md ops listed) (hi : i ∈ Region.ready md ops listed) : ClosedS md ops (listed.setIfInBounds i true) := by
  obtain ⟨_, oi, hoi, hall⟩ := mem_ready.1 hi
  intro j oj hj hl e he hb
  by_cases hij : i = j
  · subst hij
    have : oj = oi := Option.some.inj (hj.symm.trans hoi)
    subst this
    exact getD_set_true (hall e he hb)
  · rw [getD_set_ne false hij] at hl
    exact getD_set_true (h j oj hj hl e he hb)
set_option maxRecDepth 100000 in
theorem wp_of_goesS {o : Oper} {a : Act} {v : Value} {w w' : World} {K' : Act → World → Prop} {Q' : Exit → Act → World → Prop} (hg : goesS P w w' v ((execOp a.eval o).run P w)) (h : K' (a.put o.dst v) w') : o.wp P a w K' Q' := by
  unfold Oper.wp
  generalize (execOp a.eval o).run P w = r at *
  cases r with
  | ok n x =>
    cases n <;> simp only [goesS] at hg <;> simp only [Oper.upon]
    case value u => obtain ⟨rfl, rfl⟩ := hg; exact h
    case skip => obtain ⟨rfl, rfl⟩ := hg; exact h
    case enter f args =>
      obtain ⟨rfl, rfl, hc⟩ := hg
      exact hc.mono fun e w'' ⟨he, hw''⟩ => by subst he; subst hw''; exact h
  | halt x w' => simp only [goesS] at hg
set_option maxRecDepth 100000 in
theorem wpAny_of_stf {Q : Act → Prop} {Q' : Exit → Act → World → Prop} (hsz : s < ops.size) (hQ : ∀ a, Q a → Q' .normal a w1) :
    ∀ (fuel : Nat) (listed : Array Bool) (a : Act), ClosedS .any ops listed →
    wpAnyS P .any ops s w0 w1 (fun listed a => (s < ops.size → listed.getD s false = true) ∧ Q a) fuel listed a → wpAny P .any ops Q' fuel listed a (atS s w0 w1 listed)
  | 0, listed, a, _, h => ⟨h.1, by have e : atS s w0 w1 listed = w1 := by unfold atS; rw [if_pos (h.2.1 hsz)]
                                   rw [e]; exact hQ _ h.2.2⟩
  | fuel + 1, listed, a, hc, h => by
    refine ⟨fun h0 => ?_, fun i hi => ?_⟩
    · have h1 := h.1 h0
      have e : atS s w0 w1 listed = w1 := by unfold atS; rw [if_pos (h1.1 hsz)]
      rw [e]; exact hQ _ h1.2
    · have h2 := h.2 i hi
      have hc2 := hc.set hi
      have hun := (mem_ready.1 hi).1
      obtain ⟨hif, hil⟩ := getD_fs hun
      have next : ∀ a', wpAnyS P .any ops s w0 w1 (fun listed a => (s < ops.size → listed.getD s false = true) ∧ Q a) fuel (listed.setIfInBounds i true) a' → wpAny P .any ops Q' fuel (listed.setIfInBounds i true) a' (atS s w0 w1 (listed.setIfInBounds i true)) :=
        fun a' => wpAny_of_stf hsz hQ fuel _ a' hc2
      unfold sfOp at h2
      unfold wpOp
      split
      · rename_i ho; simp only [ho] at h2
        obtain ⟨_, o, ho', _⟩ := mem_ready.1 hi
        rw [ho] at ho'; cases ho'
      · rename_i o ho
        simp only [ho] at h2
        obtain ⟨v, hd, hK⟩ := h2
        have here := next _ hK
        have hset : (listed.setIfInBounds i true).getD i false = true := by simp [hil]
        rcases hd with ⟨hw, hd⟩ | ⟨hw, rfl, his⟩
        · rw [hw, if_pos rfl]
          refine .inl ?_
          unfold AskedS at hd
          by_cases his : i = s
          · subst his
            rw [if_pos rfl] at hd
            have e1 : atS i w0 w1 listed = w0 := by unfold atS; rw [hif]; rfl
            have e2 : atS i w0 w1 (listed.setIfInBounds i true) = w1 := by unfold atS; rw [hset]; rfl
            rw [e1]; rw [e2] at here
            exact wp_of_goesS hd here
          · rw [if_neg his] at hd
            obtain ⟨d0, d1⟩ := hd
            have e2 : atS s w0 w1 (listed.setIfInBounds i true) = atS s w0 w1 listed := by unfold atS; rw [getD_set_ne false his]
            rw [e2] at here
            unfold atS at here ⊢
            split
            · rename_i h1
              rw [if_pos h1] at here
              rcases d1 with d1 | d1
              · exfalso
                unfold waits at d1
                split at d1
                · rename_i os hos
                  obtain ⟨e, he, hb⟩ := List.any_eq_true.1 d1
                  have he := Array.mem_toList_iff.1 he
                  simp only [Bool.and_eq_true, beq_iff_eq] at hb
                  have := hc s os hos h1 e he hb.1
                  rw [hb.2, hif] at this
                  cases this
                · cases d1
              · exact wp_of_goesS d1 here
            · rename_i h1; rw [if_neg h1] at here; exact wp_of_goesS d0 here
        · rw [hw]
          have e2 : atS s w0 w1 (listed.setIfInBounds i true) = atS s w0 w1 listed := by unfold atS; rw [getD_set_ne false his]
          rw [e2] at here
          exact here
set_option maxRecDepth 100000 in
/-- The law: operation s stores; the others leave the world alone. -/
theorem wp_region_stf {id : Nat} {Q : Exit → Act → World → Prop} {a : Act} {w : World} {l : List Oper} (s : Nat) (f : World → World) (hm : P.follows .mixedOrders = true) (hB : Region.lexB .any l.toArray = true) (hsz : s < l.length)
    (h : wpStf P l.toArray s w.drew (f w.drew) (fun a' => Q .normal a' (f w.drew)) 0 l a) : (Code.region id l.toArray true).wp P Q a w := by
  simp only [Region.lexB, Bool.and_eq_true] at hB
  refine wp_region_any hm ?_
  have hx := wpAnyS_lex (P := P) (s := s) (w0 := w.drew) (w1 := f w.drew) (md := .any) hB.1 l 0 (Array.replicate l.toArray.size false) a (by simp) (by simp) (fun j hj => absurd hj (Nat.not_lt_zero _)) (by simpa using hB.2) h
  have hf : ∀ m j, (Array.replicate m false).getD j false = false := fun m j => by
    rcases Nat.lt_or_ge j m with h | h
    · simp [h]
    · simp [h]
  have hy := wpAny_of_stf (ops := l.toArray) (by simpa using hsz) (fun a h => h) _ _ _ (fun j oj _ hl => by rw [hf] at hl; cases hl) hx
  have e0 : atS s w.drew (f w.drew) (Array.replicate l.toArray.size false) = w.drew := by unfold atS; rw [hf]; rfl
  rw [e0] at hy
  simpa using hy
set_option maxRecDepth 100000 in
theorem wpStf_nil {Q : Act → Prop} {i : Nat} {a : Act} (h : Q a) : wpStf P ops s w0 w1 Q i [] a := h
set_option maxRecDepth 100000 in
/-- A step that leaves the world alone, and that the store waits for. -/
theorem wpStf_quiet {Q : Act → Prop} {i : Nat} {a : Act} {o : Oper} {rest : List Oper} (his : i ≠ s) (hwt : waits ops s i = true)
    (h : ∀ K : Act → Prop, (∀ a, wpStf P ops s w0 w1 Q (i + 1) rest a → K a) →
      if Region.wanted o (yielded ops a.tmps) then ∃ v, goesS P w0 w0 v ((execOp a.eval o).run P w0) ∧ K (a.put o.dst v) else K (a.put o.dst undef)) :
    wpStf P ops s w0 w1 Q i (o :: rest) a := by
  have h2 := h _ (fun _ h => h)
  cases hw : Region.wanted o (yielded ops a.tmps)
  · rw [hw] at h2
    exact ⟨undef, .inr ⟨hw, rfl, his⟩, h2⟩
  · rw [hw, if_pos rfl] at h2
    obtain ⟨v, a1, a4⟩ := h2
    refine ⟨v, .inl ⟨hw, ?_⟩, a4⟩
    unfold AskedS
    rw [if_neg his]
    exact ⟨a1, .inl hwt⟩
set_option maxRecDepth 100000 in
/-- A step that leaves the world alone, before or behind the store. -/
theorem wpStf_free {Q : Act → Prop} {i : Nat} {a : Act} {o : Oper} {rest : List Oper} (his : i ≠ s)
    (h : ∀ K : Act → Prop, (∀ a, wpStf P ops s w0 w1 Q (i + 1) rest a → K a) →
      if Region.wanted o (yielded ops a.tmps) then ∃ v, goesS P w0 w0 v ((execOp a.eval o).run P w0) ∧ goesS P w1 w1 v ((execOp a.eval o).run P w1) ∧ K (a.put o.dst v) else K (a.put o.dst undef)) :
    wpStf P ops s w0 w1 Q i (o :: rest) a := by
  have h2 := h _ (fun _ h => h)
  cases hw : Region.wanted o (yielded ops a.tmps)
  · rw [hw] at h2
    exact ⟨undef, .inr ⟨hw, rfl, his⟩, h2⟩
  · rw [hw, if_pos rfl] at h2
    obtain ⟨v, a1, a2, a4⟩ := h2
    refine ⟨v, .inl ⟨hw, ?_⟩, a4⟩
    unfold AskedS
    rw [if_neg his]
    exact ⟨a1, .inr a2⟩
set_option maxRecDepth 100000 in
theorem wpStf_store {Q : Act → Prop} {i : Nat} {a : Act} {o : Oper} {rest : List Oper} (hg : o.guard = none) (his : i = s)
    (h : ∀ K : Act → Prop, (∀ a, wpStf P ops s w0 w1 Q (i + 1) rest a → K a) → ∃ v, goesS P w0 w1 v ((execOp a.eval o).run P w0) ∧ K (a.put o.dst v)) :
    wpStf P ops s w0 w1 Q i (o :: rest) a := by
  obtain ⟨v, a1, a2⟩ := h _ (fun _ h => h)
  refine ⟨v, .inl ⟨by unfold Region.wanted; rw [hg], ?_⟩, a2⟩
  unfold AskedS
  rw [if_pos his]
  exact a1
set_option maxRecDepth 100000 in
@[go_sem] theorem goesS_value (w w' x : World) (v u : Value) : goesS P w w' v (.ok (.value u) x) = (x = w' ∧ u = v) := rfl
set_option maxRecDepth 100000 in
@[go_sem] theorem goesS_skip (w w' x : World) (v : Value) : goesS P w w' v (.ok .skip x) = (x = w' ∧ v = undef) := rfl
set_option maxRecDepth 100000 in
@[go_sem] theorem goesS_enter (w w' x : World) (v : Value) (f : FuncId) (args : Array Value) : goesS P w w' v (.ok (.enter f args) x) = (x = w ∧ w' = w ∧ Calls P f args w (fun e w'' => e = .returned v ∧ w'' = w)) := rfl
end

end Go.Proofs.YtceljjnohjnepaaDoor

namespace Go.Proofs.YtceljjnohjnepaaDoor
open Go.RowKit

section
variable {P : Program}
set_option maxRecDepth 100000 in
theorem run_part_int {e : TypeId} {k : IntKind} (he : P.underlying e = some (.int k)) (cs : Array Value) (j : Nat) (v : Value) (hv : cs[j]? = some v) (w : World) : (part e cs j).run P w = .ok v w := by
  unfold part
  have hagg : (isAgg e).run P w = .ok false w := by
    unfold isAgg
    rw [Sem.run_bind, run_underlying he w]
    rfl
  simp [Sem.run_bind, hagg, hv]

set_option maxRecDepth 100000 in
theorem run_forIn_same (f : Nat → Option Bool × Unit → Sem (ForInStep (Option Bool × Unit))) (xs ys : List Nat) (n : Nat) (hx : xs.length = n) (hy : ys.length = n) (w : World)
    (hf : ∀ i, i < n → (f i (none, ())).run P w = .ok (if xs.getD i 0 = ys.getD i 0 then .yield (none, ()) else .done (some false, ())) w) :
    ∀ m s, s + m = n → (forIn (List.range' s m) (none, ()) f).run P w = .ok (if xs.drop s = ys.drop s then (none, ()) else (some false, ())) w := by
  intro m
  induction m with
  | zero =>
    intro s hs
    rw [List.drop_eq_nil_of_le (by omega), List.drop_eq_nil_of_le (by omega)]
    simp [Sem.run_pure]
  | succ m ih =>
    intro s hs
    rw [List.range'_succ, List.forIn_cons, Sem.run_bind, hf s (by omega)]
    have e1 : xs.drop s = xs.getD s 0 :: xs.drop (s + 1) := by rw [List.drop_eq_getElem_cons (by omega)]; simp [show s < xs.length by omega]
    have e2 : ys.drop s = ys.getD s 0 :: ys.drop (s + 1) := by rw [List.drop_eq_getElem_cons (by omega)]; simp [show s < ys.length by omega]
    rw [e1, e2]
    by_cases h : xs.getD s 0 = ys.getD s 0
    · rw [if_pos h, Result.andThen_ok]
      simp only [h, List.cons.injEq, true_and]
      exact ih (s + 1) (by omega)
    · rw [if_neg h, Result.andThen_ok, if_neg (by simp only [List.cons.injEq]; exact fun hh => h hh.1)]
      rfl

set_option maxRecDepth 100000 in
theorem run_equalIn_ints {t e : TypeId} {n : Nat} {k : IntKind} (ht : P.underlying t = some (.array n e)) (he : P.underlying e = some (.int k)) (hs : (P.info? e).map (·.size) = some 1) (d : Nat) (xs ys : List Nat) (hx : xs.length = n) (hy : ys.length = n) (w : World) :
    (Op.equalIn (d + 2) t (.agg (ints k xs)) (.agg (ints k ys))).run P w = .ok (decide (xs = ys)) w := by
  have hsz : (sizeOf e).run P w = .ok 1 w := by
    cases hq : P.info? e with
    | none => simp [hq] at hs
    | some i => simp [hq] at hs; simp [sizeOf, typeInfo, hq, hs]
  rw [Op.equalIn]
  simp only [Sem.run_bind, run_underlying ht, Result.andThen_ok, hsz, Std.Legacy.Range.forIn_eq_forIn_range', Std.Legacy.Range.size, Nat.sub_zero, Nat.add_sub_cancel, Nat.div_one]
  rw [run_forIn_same (P := P) _ xs ys n hx hy w ?_ _ 0 ?_]
  · rw [List.drop_zero, List.drop_zero, Result.andThen_ok]
    by_cases h : xs = ys
    · simp [h, Sem.run_pure]
    · simp [h, Sem.run_pure]
  · intro i hi
    have p1 := run_part_int he (ints k xs) i _ (ints_get k xs (show i < xs.length by omega)) w
    have p2 := run_part_int he (ints k ys) i _ (ints_get k ys (show i < ys.length by omega)) w
    simp only [Nat.mul_one, Sem.run_bind, p1, p2, Result.andThen_ok, run_equalIn_int w d e k k _ _ he]
    by_cases h : xs.getD i 0 = ys.getD i 0
    · rw [if_pos h, h]; simp [Sem.run_pure]
    · rw [if_neg h]
      have : ((((xs.getD i 0 : Nat) : Int)) == ((ys.getD i 0 : Nat) : Int)) = false := beq_eq_false_iff_ne.2 (by omega)
      rw [this]; simp [Sem.run_pure]
  · simp

set_option maxRecDepth 100000 in
/-- An element of an array of numbers. -/
theorem run_index_ints {t e : TypeId} {n : Nat} {k : IntKind} (ht : P.underlying t = some (.array n e)) (he : P.underlying e = some (.int k)) (hs : (P.info? e).map (·.size) = some 1) (l : List Nat) (hl : l.length = n) (i : Nat) (hi : i < n) (w : World) :
    (Instr.index t (.agg (ints k l)) (.int .i64 (i : Int))).run P w = .ok (.int k ((l.getD i 0 : Nat) : Int)) w := by
  have hsz : (sizeOf e).run P w = .ok 1 w := by
    cases hq : P.info? e with
    | none => simp [hq] at hs
    | some i => simp [hq] at hs; simp [sizeOf, typeInfo, hq, hs]
  unfold Instr.index
  simp only [Sem.run_bind, asIntOf, Sem.run_pure, Result.andThen_ok, run_underlying ht]
  rw [if_pos (by omega)]
  simp only [Sem.run_bind, hsz, Result.andThen_ok, Nat.mul_one, Int.toNat_natCast]
  exact run_part_int he _ _ _ (ints_get k l (by omega)) w
end

end Go.Proofs.YtceljjnohjnepaaDoor

namespace Go.Proofs.YtceljjnohjnepaaDoor
open Go.RowKit DG
set_option maxRecDepth 100000 in
theorem info_wide : (Tryd.prog.info? 83).map (·.size) = some 8 := by kernel_rfl
                 theorem exl_wide {r : Operand → Value} {dst : Option Nat} {x : Operand} {t : TypeId} {pos : String} {af : Array Edge} {g : Option (Nat × Bool)} : execOp r ⟨dst, .load 83 x, t, pos, af, g⟩ = (do let v ← loadRow 83 (r x); pure (Next.value v)) := rfl
                 theorem exs_wide {r : Operand → Value} {dst : Option Nat} {x y : Operand} {t : TypeId} {pos : String} {af : Array Edge} {g : Option (Nat × Bool)} : execOp r ⟨dst, .store 83 x y, t, pos, af, g⟩ = (do storeRow 83 (r x) (r y); pure Next.skip) := rfl
                 theorem ldr_wide (b : Nat) (w : World) : (loadRow 83 (.pointer (some ⟨b, 0, none⟩))).run Tryd.prog w = match hget w b with | some (.cells c _ _) => if c.size = 8 then .ok (.agg c) w else stuckL Tryd.prog 83 b w | _ => stuckL Tryd.prog 83 b w := loadRow_run Tryd.underlying83 rfl info_wide b w
                 theorem str_wide (b : Nat) (c' : Array Value) (w : World) : (storeRow 83 (.pointer (some ⟨b, 0, none⟩)) (.agg c')).run Tryd.prog w = match hget w b with | some (.cells c T (0, 0)) => if c.size = 8 then (if c'.size = 8 then (if ones c' = true then .ok () (blk w b (.cells c' T (0, 0))) else stuckS Tryd.prog 83 b (.agg c') w) else stuckS Tryd.prog 83 b (.agg c') w) else stuckS Tryd.prog 83 b (.agg c') w | _ => stuckS Tryd.prog 83 b (.agg c') w := storeRow_run info_wide b c' w
attribute [local go_sem ↓] exl_Elem exs_Elem exl_wide exs_wide
                                                                                                                                                                                                                                                                                                                                                                                                                                                                                                                        attribute [local go_sem] ldr_Elem str_Elem ldr_wide str_wide

set_option maxRecDepth 100000 in
theorem quad_ints (n : Nat) : quad n = ints .u64 (digs (2 ^ 64) n 4) := by
  unfold quad ints
  simp only [digs, List.map_cons, List.map_nil, Nat.div_div_eq_div_mul]
set_option maxRecDepth 100000 in
theorem product_bound {a b : Nat} (ha : a < p2) (hb : b < p2) : a * b < (2 ^ 64) ^ 8 := by
  have h1 : a * b < p2 * p2 := Nat.mul_lt_mul'' ha hb
  exact Nat.lt_of_lt_of_le h1 (by decide)
set_option maxRecDepth 100000 in
theorem idx_elem (l : List Nat) (hl : l.length = 4) (k : Nat) (hk : k < 4) (w : World) :
    (Instr.index 44 (.agg (ints .u64 l)) (.int .i64 (k : Int))).run Tryd.prog w = .ok (.int .u64 ((l.getD k 0 : Nat) : Int)) w :=
  run_index_ints (n := 4) (k := .u64) Tryd.underlying44 (by rfl) (by kernel_rfl) l hl k hk w

set_option maxRecDepth 100000 in
set_option maxHeartbeats 2000000 in
theorem product_any (a b : Nat) (W : World) (ha : a < p2) (hb : b < p2) : Calls Tryd.prog 47 #[.agg (quad a), .agg (quad b)] W fun e w' => e = .returned (.agg (ints .u64 (digs (2 ^ 64) (a * b) 8))) ∧ Below W.heap.size W w' := by
  rw [quad_ints, quad_ints]
  have va := val_digs (B := 2 ^ 64) a 4
  have vb := val_digs (B := 2 ^ 64) b 4
  rw [Nat.mod_eq_of_lt (a := a) (by unfold p2 at ha; omega)] at va
  rw [Nat.mod_eq_of_lt (a := b) (by unfold p2 at hb; omega)] at vb
  have aa := digs_all (B := 2 ^ 64) (by decide) a 4
  have ab := digs_all (B := 2 ^ 64) (by decide) b 4
  have la := digs_length (B := 2 ^ 64) a 4
  have lb := digs_length (B := 2 ^ 64) b 4
  have hbd := product_bound ha hb
  generalize digs (2 ^ 64) a 4 = da at *
  generalize digs (2 ^ 64) b 4 = db at *
  have hsa : (ints .u64 da).size = 4 := by rw [ints_size, la]
  have hsb : (ints .u64 db).size = 4 := by rw [ints_size, lb]
  have VA := hid va
  have VB := hid vb
  have LA := hid la
  have LB := hid lb
  have HBD := hid hbd
  clear va vb la lb hbd ha hb
  go_enter Tryd.func47, Tryd.ntmps47
  go_upto_region 1 with (fail)
  obtain ⟨N, hN⟩ : ∃ N, W.heap.size = N := ⟨_, rfl⟩
  obtain ⟨w1, hw1⟩ : ∃ w1, ((W.alloc (.cells (ints .u64 da) 44)).alloc (.cells (ints .u64 db) 44)).alloc (.cells #[.int .u64 0, .int .u64 0, .int .u64 0, .int .u64 0, .int .u64 0, .int .u64 0, .int .u64 0, .int .u64 0] 83) = w1 := ⟨_, rfl⟩
  have fA : hget w1 N = some (.cells (ints .u64 da) 44 (0, 0)) := by rw [← hw1, ← hN]; clear hw1 hN; go_simp
  have fB : hget w1 (N + 1) = some (.cells (ints .u64 db) 44 (0, 0)) := by rw [← hw1, ← hN]; clear hw1 hN; go_simp
  have fV : hget w1 (N + 1 + 1) = some (.cells (ints .u64 [0, 0, 0, 0, 0, 0, 0, 0]) 83 (0, 0)) := by rw [← hw1, ← hN]; rw [hget_alloc, if_pos (by simp)]; rfl
  have hb1 : Below W.heap.size W w1 := by rw [← hw1]; repeat (first | exact Below.refl _ _ | exact below_new _ | assumption | refine Below.drew ?_ | refine Below.drewN ?_ _ | refine below_alloc ?_ _)
  rw [hw1, hN]
  have HN := hid hN
  have FB := hid fB
  have FV := hid fV
  have HB1 := hid hb1
  clear hN hw1 fB fV hb1
  go_wp2_with fail
  clear fA
  go_loopw [14] (fun i wr => ∃ (k : Nat) (wl : List Nat), k ≤ 4 ∧ i = .int .i64 (k : Int) ∧ wl.length = 8 ∧ All (2 ^ 64) wl ∧ val (2 ^ 64) wl = val (2 ^ 64) (da.take k) * b ∧ (∀ m, k + 4 ≤ m → wl.getD m 0 = 0) ∧
      hget wr (N + 1) = some (.cells (ints .u64 db) 44 (0, 0)) ∧ hget wr (N + 1 + 1) = some (.cells (ints .u64 wl) 83 (0, 0)) ∧ Below W.heap.size W wr) (fun i _ => (4 - intOf i).toNat)
  case atStart =>
    refine ⟨0, [0, 0, 0, 0, 0, 0, 0, 0], by omega, rfl, rfl, by exact all_replicate 8 (by decide), by simp [val], fun m _ => ?_, FB.out, FV.out, HB1.out⟩
    match m with
    | 0 | 1 | 2 | 3 | 4 | 5 | 6 | 7 => rfl
    | m + 8 => simp
  case round =>
    obtain ⟨k, wl, hk, rfl, hwl, hall, hval, hz, rB, rV, rb⟩ := hrel
    have HV := hid hval
    have HZ := hid hz
    have RV := hid rV
    have RBE := hid rb
    clear hval hz rV rb
    by_cases hk4 : k < 4
    · have hkd : decide ((k : Int) < 4) = true := decide_eq_true (by omega)
      have hix := idx_elem da LA.out k hk4
      have hx64 : da.getD k 0 < 18446744073709551616 := aa.getD (by rw [LA.out]; exact hk4)
      generalize hx : da.getD k 0 = x at *
      have HX := hid hx
      clear hx
      go_wp2_with fail
      have RB := hid rB
      clear hix rB
      go_loopw [19, 7] (fun i cy wq => ∃ (j cr : Nat) (wm : List Nat), j ≤ 4 ∧ i = .int .i64 (j : Int) ∧ cy = .int .u64 (cr : Int) ∧ cr < 18446744073709551616 ∧ wm.length = 8 ∧ All (2 ^ 64) wm ∧
          val (2 ^ 64) wm + cr * (2 ^ 64) ^ (k + j) = val (2 ^ 64) wl + x * val (2 ^ 64) (db.take j) * (2 ^ 64) ^ k ∧ (∀ m, k + 4 ≤ m → wm.getD m 0 = 0) ∧
          hget wq (N + 1) = some (.cells (ints .u64 db) 44 (0, 0)) ∧ hget wq (N + 1 + 1) = some (.cells (ints .u64 wm) 83 (0, 0)) ∧ Below W.heap.size W wq) (fun i _ _ => (4 - intOf i).toNat)
      case atStart => exact ⟨0, 0, wl, by omega, rfl, rfl, by omega, hwl, hall, by simp [DG.val], HZ.out, RB.out, RV.out, RBE.out⟩
      case round =>
        obtain ⟨j, cr, wm, hj, rfl, rfl, hcr, hwm, hallm, hvm, hzm, qB, qV, qb⟩ := hrel
        have HVM := hid hvm
        have HZM := hid hzm
        have QB := hid qB
        have QBE := hid qb
        clear hvm hzm qB qb
        by_cases hj4 : j < 4
        · have hjd : decide ((j : Int) < 4) = true := decide_eq_true (by omega)
          have hiy := idx_elem db LB.out j hj4
          have hy64 : db.getD j 0 < 18446744073709551616 := ab.getD (by rw [LB.out]; exact hj4)
          generalize hy : db.getD j 0 = y at *
          have hkj : k + j < wm.length := by omega
          have ht64 := hallm.getD hkj
          have cj := ints_cell qV hkj
          have hfv := free_at qV
          have hi0 : 0 ≤ (k : Int) + (j : Int) := by omega
          have hi1 : (k : Int) + (j : Int) < 8 := by omega
          have hi2 : ((k : Int) + (j : Int)).toNat = k + j := by omega
          generalize hT : wm.getD (k + j) 0 = T at *
          have HT := hid hT
          have HY := hid hy
          have QV := hid qV
          clear hT hy qV
          go_wp2_with fail
          refine (mul64_any x y _ (by omega) (by omega)).mono ?_
          rintro e w' ⟨rfl, rfl⟩
          obtain ⟨hi, lo, eh, el, m1, m2, m3, m4, m5, m6⟩ := mul64_facts (x : Int) (y : Int) (by omega) (by omega)
          rw [eh, el]
          have M5 := hid m5
          clear eh el m5
          have tok1 : True := trivial
          have tok2 : True := trivial
          go_wp2_with (first | (have _t := tok1; refine wpList_add64 rfl rfl _ _ _ rfl rfl rfl (by omega) (by omega) (by omega) (by omega) (by omega) ?_; intro d1 e1 da1 db1 ea1 eb1 pa1 pb1; obtain ⟨d1, rfl⟩ := Int.eq_ofNat_of_zero_le da1; obtain ⟨e1, rfl⟩ := Int.eq_ofNat_of_zero_le ea1; clear tok1 _t) | (have _t := tok2; refine wpList_add64 rfl rfl _ _ _ rfl rfl rfl (by omega) (by omega) (by omega) (by omega) (by omega) ?_; intro d2 e2 da2 db2 ea2 eb2 pa2 pb2; obtain ⟨d2, rfl⟩ := Int.eq_ofNat_of_zero_le da2; obtain ⟨e2, rfl⟩ := Int.eq_ofNat_of_zero_le ea2; clear tok2 _t))
          have he : d2 + 18446744073709551616 * (hi.toNat + e1 + e2) = x * y + T + cr := by
            have m := M5.out
            have m' : ((x * y : Nat) : Int) = lo + 18446744073709551616 * hi := by rw [Int.natCast_mul]; exact m
            clear m M5
            generalize x * y = xy at *
            omega
          have hst := mul_step (B := 2 ^ 64) (wl := wm) (j := k + j) (v := d2) (x := x) (y := y) (c := cr) (c' := hi.toNat + e1 + e2) (V0 := val (2 ^ 64) wl) (t := val (2 ^ 64) (db.take j)) (i := k) (k := j) hkj rfl HVM.out (by rw [HT.out]; exact he)
          rw [← HY.out, ← val_take_succ db j (by rw [LB.out]; exact hj4)] at hst
          have HST := hid hst
          clear hst
          have hci : hi + (e1 : Int) + (e2 : Int) = ((hi.toNat + e1 + e2 : Nat) : Int) := by omega
          go_roundw
          case rel =>
            refine ⟨j + 1, hi.toNat + e1 + e2, wm.set (k + j) d2, by omega, by go_num, congrArg (Value.int IntKind.u64) hci, by omega, by simp [hwm], All.set hallm _ (by omega), HST.out, fun m hm => ?_, at_setCell_other QB.out (by simp) _, ?_, QBE.out.setCell (by have := HN.out; simp; omega) _⟩
            · have h0 := HZM.out m hm; simp only [List.getD_eq_getElem?_getD] at h0 ⊢; rw [List.getElem?_set_ne (by omega)]; exact h0
            · exact ints_store QV.out _ _
          case measure => simp [intOf]; omega
        · have hj5 : j = 4 := by omega
          have hjd : decide ((j : Int) < 4) = false := decide_eq_false (by omega)
          have hvm := HVM.out
          rw [hj5, List.take_of_length_le (by rw [LB.out]; omega), VB.out] at hvm
          have hk4' : k + 4 < wm.length := by omega
          have hfv := free_at qV
          have hcc := ints_cell qV hk4'
          have hi0 : 0 ≤ (k : Int) + 4 := by omega
          have hi1 : (k : Int) + 4 < 8 := by omega
          have hi2 : ((k : Int) + 4).toNat = k + 4 := by omega
          have hst := carry_step (B := 2 ^ 64) (wl := wm) (j := k + 4) (v := cr) (c := cr) (c' := 0) hk4' hvm (by rw [HZM.out (k + 4) (Nat.le_refl _)]; omega)
          rw [Nat.zero_mul, Nat.add_zero, HV.out, ← HX.out, Nat.mul_right_comm, ← Nat.add_mul, ← val_take_succ da k (by rw [LA.out]; exact hk4)] at hst
          have HST := hid hst
          have QV := hid qV
          clear hvm hst qV hj5 HVM
          go_wp2_with fail
          refine ⟨⟨k + 1, wm.set (k + 4) cr, by omega, by go_num, by simp [hwm], All.set hallm _ (by omega), HST.out, fun m hm => ?_, at_setCell_other QB.out (by simp) _, ints_store QV.out _ _, QBE.out.setCell (by have := HN.out; simp; omega) _⟩, by simp [intOf]; omega⟩
          have h0 := HZM.out m (by omega); simp only [List.getD_eq_getElem?_getD] at h0 ⊢; rw [List.getElem?_set_ne (by omega)]; exact h0
    · have hkd : decide ((k : Int) < 4) = false := decide_eq_false (by omega)
      have hv := HV.out
      have hk5 : k = 4 := by omega
      rw [hk5, List.take_of_length_le (by rw [LA.out]; omega), VA.out] at hv
      have hd := digs_val hall
      rw [hv, hwl] at hd
      have hs8 : (ints .u64 wl).size = 8 := by rw [ints_size, hwl]
      have ho8 : ones (ints .u64 wl) = true := rows_one _ _
      have HD := hid hd
      have rV := RV.out
      have lV := hget_lt rV
      clear hd hv hk5 RV hall HV
      go_wp2_with fail
      refine bodyPost_ret (v := .agg (ints .u64 wl)) (results_cell_row Tryd.results47 _ _ (N + 1 + 1) 83 (ints .u64 wl) (0, 0) _ (by rfl) (by rw [← hget_eq]; go_simp) Tryd.underlying83 rfl (by rw [info_wide]; go_simp)) rfl ?_
      have hNW := HN.out
      exact ⟨by rw [HD.out], by repeat (first | exact Below.refl _ _ | exact below_new _ | exact RBE.out | assumption | refine Below.drew ?_ | refine Below.drewN ?_ _ | refine below_alloc ?_ _ | refine below_blk' ?_ (by omega) _)⟩

end Go.Proofs.YtceljjnohjnepaaDoor

namespace Go.Proofs.YtceljjnohjnepaaDoor
open Go.RowKit DG
attribute [local go_sem ↓] exl_Elem exs_Elem
                 attribute [local go_sem] ldr_Elem str_Elem
attribute [local go_sem] to_quad0

set_option maxRecDepth 100000 in
set_option maxHeartbeats 1000000 in
theorem Of_32 (s : ByteArray) (W : World) (hs' : s.size = 32) :
    Calls Tryd.prog 33 #[.string s] W fun e w' => e = .returned (.tuple #[.agg (quad (bytesNat s.data.toList)), .int .i64 0]) ∧ Below W.heap.size W w' := by
  have hs2 : (s.size : Int) = 32 := by omega
  have HS := hid hs'
  have hsl : s.data.toList.length = 32 := by simpa using HS.out
  have HSL := hid hsl
  clear hsl
  go_enter Tryd.func33, Tryd.ntmps33
  go_wp2_with fail
  go_loopw [11] (fun i wr => ∃ k : Nat, k ≤ 32 ∧ i = .int .i64 (k : Int) ∧ wr.heap[W.heap.size]? = some (.cells (ints .u64 (digs (2 ^ 64) (bytesNat (s.data.toList.take k)) 4)) 44 (0, 0)) ∧ Below W.heap.size W wr) (fun i _ => (32 - intOf i).toNat)
  case atStart =>
    have e0 : ints .u64 (digs (2 ^ 64) (bytesNat (s.data.toList.take 0)) 4) = quad 0 := by rw [List.take_zero]; rfl
    refine ⟨0, by omega, rfl, ?_, below_new _⟩
    rw [e0]
    exact alloc_at _ _
  case round =>
    obtain ⟨k, hk, rfl, hq, hb⟩ := hrel
    by_cases hlt : k < 32
    · have cj := ints_cell hq (j := k / 8) (by rw [digs_length]; omega)
      have hf := free_at hq
      have hkz : k < s.size := by omega
      have hi1 : 0 ≤ (k : Int) / 8 := by omega
      have hi2 : (k : Int) / 8 < 4 := by omega
      have hi3 : ((k : Int) / 8).toNat = k / 8 := by omega
      obtain ⟨hst, hlt2⟩ := word_step (n := bytesNat (s.data.toList.take k)) (b := s[k].toNat) (k := k) (m := 4) (by
        have := bytesNat_lt (s.data.toList.take k); rwa [List.length_take, HSL.out, Nat.min_eq_left hk] at this) s[k].toNat_lt (by omega)
      have htk := bytesNat_take_succ s.data.toList k (by rw [HSL.out]; exact hlt)
      rw [show s.data.toList[k]'(by rw [HSL.out]; exact hlt) = s[k] from rfl] at htk
      rw [← htk] at hst
      have hst2 := ints_store hq (k / 8) ((digs (2 ^ 64) (bytesNat (s.data.toList.take k)) 4).getD (k / 8) 0 + s[k].toNat * 2 ^ (8 * (k % 8)))
      rw [← hst, ← or_byte _ _ _ hlt2 s[k].toNat_lt (Nat.mod_lt _ (by decide))] at hst2
      generalize hx : (digs (2 ^ 64) (bytesNat (s.data.toList.take k)) 4).getD (k / 8) 0 = x at *
      have HN := hid hst2
      clear hx hq htk hst hlt2 hst2
      go_wp2_with fail
      refine still_tail 15 (by kernel_rfl) (by kernel_rfl) ?_
      simp only [List.take_succ_cons, List.take_zero, List.drop_succ_cons, List.drop_zero]
      repeat (first | (refine wpStill_step (fun K hK => ?_); go_simp; refine hK _ ?_; clear hK K; try go_ints))
      refine wpStill_nil ?_
      go_wp2_with fail
      exact ⟨⟨k + 1, by omega, by go_num, HN.out, (hb.setCell (by simp) _).drew⟩, by simp [intOf]; omega⟩
    · have hkn : k = 32 := by omega
      subst hkn
      rw [List.take_of_length_le (by rw [HSL.out]; omega), ← quad_ints] at hq
      obtain ⟨z, hz⟩ : ∃ z, bytesNat s.data.toList = z := ⟨_, rfl⟩
      rw [hz] at hq
      have HZ := hid hz
      have gO : hget wr W.heap.size = some (.cells (quad z) 44 (0, 0)) := hq
      have lO := hget_lt gO
      have HB := hid hb
      clear hq hz hb
      go_wp2_with fail
      refine bodyPost_ret (v := .tuple #[.agg (quad z), .int .i64 0]) (results_cell_tmp Tryd.results33 _ _ (W.heap.size) 44 (quad z) (0, 0) _ (.int .i64 0) (by rfl) (by rfl) (by rw [← hget_eq]; go_simp) Tryd.underlying44 rfl (by rw [info_Elem]; go_simp)) rfl ?_
      exact ⟨by rw [HZ.out], by repeat (first | exact Below.refl _ _ | exact below_new _ | exact HB.out | assumption | refine Below.drew ?_ | refine Below.drewN ?_ _ | refine below_alloc ?_ _ | refine below_blk' ?_ (by omega) _)⟩

set_option maxRecDepth 100000 in
set_option maxHeartbeats 400000 in
theorem Of_no (s : ByteArray) (W : World) (h1 : s.size ≠ 32) (_hmax : s.size ≤ 9223372036854775807) :
    Calls Tryd.prog 33 #[.string s] W fun e w' => e = .returned (.tuple #[.agg (quad 0), .int .i64 2]) ∧ Below W.heap.size W w' := by
  have g1 : ((s.size : Int) != 32) = true := by rw [bne_iff_ne]; omega
  clear h1
  go_enter Tryd.func33, Tryd.ntmps33
  go_wp2_with fail
  refine bodyPost_ret (v := .tuple #[.agg (quad 0), .int .i64 2]) (results_cell_tmp Tryd.results33 _ _ (W.heap.size) 44 (quad 0) (0, 0) _ (.int .i64 2) (by rfl) (by rfl) (by rw [← hget_eq]; go_simp) Tryd.underlying44 rfl (by rw [info_Elem]; go_simp)) rfl ?_
  exact ⟨rfl, by repeat (first | exact Below.refl _ _ | exact below_new _ | assumption | refine Below.drew ?_ | refine Below.drewN ?_ _ | refine below_alloc ?_ _)⟩

set_option maxRecDepth 100000 in
theorem Of_any (s : ByteArray) (W : World) (hmax : s.size ≤ 9223372036854775807) :
    Calls Tryd.prog 33 #[.string s] W fun e w' => e = .returned (.tuple #[.agg (quad (if s.size = 32 then bytesNat s.data.toList else 0)), .int .i64 (if s.size = 32 then 0 else 2)]) ∧ Below W.heap.size W w' := by
  by_cases h : s.size = 32
  · rw [if_pos h, if_pos h]; exact Of_32 s W h
  · rw [if_neg h, if_neg h]; exact Of_no s W h hmax

end Go.Proofs.YtceljjnohjnepaaDoor

namespace Go.Proofs.YtceljjnohjnepaaDoor
open Go Go.RowKit

structure But (L : List Nat) (w w' : World) : Prop where
  os : w'.os = w.os
  tape : w'.tape = w.tape
  output : w'.output = w.output
  size : w.heap.size ≤ w'.heap.size
  block : ∀ k, k < w.heap.size → k ∉ L → w'.heap[k]? = w.heap[k]?
set_option maxRecDepth 100000 in
theorem But.refl (L : List Nat) (w : World) : But L w w := ⟨rfl, rfl, rfl, Nat.le_refl _, fun _ _ _ => rfl⟩
set_option maxRecDepth 100000 in
theorem But.trans {L : List Nat} {a w w' : World} (h : But L a w) (k : But L w w') : But L a w' :=
  ⟨k.os.trans h.os, k.tape.trans h.tape, k.output.trans h.output, Nat.le_trans h.size k.size, fun i hi hn => (k.block i (Nat.lt_of_lt_of_le hi h.size) hn).trans (h.block i hi hn)⟩
set_option maxRecDepth 100000 in
theorem But.of_below {L : List Nat} {w w' : World} (h : Below w.heap.size w w') : But L w w' := ⟨h.os, h.tape, h.output, h.size, fun k hk _ => h.block k hk⟩
set_option maxRecDepth 100000 in
theorem But.of_only {L : List Nat} {b : Nat} {w w' : World} (h : Only b w w') (hb : b ∈ L) : But L w w' := ⟨h.os, h.tape, h.output, h.size, fun k hk hn => h.block k hk (fun e => hn (e ▸ hb))⟩
set_option maxRecDepth 100000 in
theorem But.alloc {L : List Nat} {a w : World} (h : But L a w) (o : Obj) : But L a (w.alloc o) :=
  ⟨h.os, h.tape, h.output, Nat.le_trans h.size (by simp), fun i hi hn => (Below.heap_alloc w o i (Nat.lt_of_lt_of_le hi h.size)).trans (h.block i hi hn)⟩
set_option maxRecDepth 100000 in
theorem But.drew {L : List Nat} {a w : World} (h : But L a w) : But L a w.drew := ⟨h.os, h.tape, h.output, h.size, h.block⟩
set_option maxRecDepth 100000 in
theorem But.drewN {L : List Nat} {a w : World} (h : But L a w) (n : Nat) : But L a (w.drewN n) := ⟨h.os, h.tape, h.output, h.size, h.block⟩
set_option maxRecDepth 100000 in
theorem But.blk {L : List Nat} {a w : World} (h : But L a w) {c : Nat} (hc : c ∈ L ∨ a.heap.size ≤ c) (o : Obj) : But L a (blk w c o) :=
  ⟨h.os, h.tape, h.output, Nat.le_trans h.size (by simp [Proofs.YtceljjnohjnepaaDoor.blk]), fun i hi hn => (blk_other i (by rintro rfl; rcases hc with hc | hc; exact hn hc; omega)).trans (h.block i hi hn)⟩
set_option maxRecDepth 100000 in
theorem But.setCell {L : List Nat} {a w : World} (h : But L a w) {p : Addr} (hp : p.block ∈ L ∨ a.heap.size ≤ p.block) (u : Value) : But L a (w.setCell p u) :=
  ⟨h.os, h.tape, h.output, Nat.le_trans h.size (by simp [World.setCell]), fun i hi hn => (Below.heap_setCell w p u i (by rintro rfl; rcases hp with hp | hp; exact hn hp; omega)).trans (h.block i hi hn)⟩
set_option maxRecDepth 100000 in
theorem But.below {L : List Nat} {B : Nat} {w w' : World} (h : But L w w') (hb : ∀ b ∈ L, B ≤ b) (hB : B ≤ w.heap.size) : Below B w w' :=
  ⟨h.os, h.tape, h.output, h.size, fun k hk => h.block k (by omega) (fun hm => by have := hb k hm; omega)⟩
set_option maxRecDepth 100000 in
theorem But.keep {L : List Nat} {w w' : World} {b : Nat} {o : Obj} (h : But L w w') (hb : w.heap[b]? = some o) (hn : b ∉ L) : w'.heap[b]? = some o := (h.block b (lt_blk hb) hn).trans hb
set_option maxRecDepth 100000 in
theorem But.cell {L : List Nat} {w w' : World} {p : Addr} {v : Value} (h : But L w w') (hc : w.cell? p = some v) (hn : p.block ∉ L) : w'.cell? p = some v :=
  (World.cell?_of_block (w := w) (h.block p.block (World.block_lt_of_cell? w p hc) hn)).trans hc

end Go.Proofs.YtceljjnohjnepaaDoor

namespace Go.Proofs.YtceljjnohjnepaaDoor
open Go.RowKit

set_option maxRecDepth 100000 in
theorem info_u8 : (Tryd.prog.info? 5).map (fun i => (i.zero, i.size, i.bytes)) = some (some (.int .u8 0), 1, 1) := by kernel_rfl

/-- Bytes as values. -/
def u8s (l : List UInt8) : List Value := l.map fun c => Value.int .u8 (c.toNat : Int)

set_option maxRecDepth 100000 in
theorem conv_string (w : World) (b off len cap : Nat) (l : List UInt8) (hl : l.length = len) (hc : ∀ j, j < len → w.cell? ⟨b, off + j, none⟩ = some (.int .u8 ((l.getD j 0).toNat : Int))) :
    (convert 27 9 (.slice (some ⟨b, off, none⟩) len cap)).run Tryd.prog w = .ok (.string ⟨l.toArray⟩) w := by
  have h := run_convert_bytes_arg (P := Tryd.prog) w 27 5 Tryd.underlying27 Tryd.underlying5 b off len cap (l.map fun c => (c.toNat : Int)) (by simpa using hl) (fun i hi => by
    rw [hc i hi]; simp [hl, hi]) 9 Tryd.underlying9
  rw [h]
  congr 2
  unfold strOfNums
  congr 1
  rw [List.map_map]
  congr 1
  conv => rhs; rw [← List.map_id l]
  exact List.map_congr_left fun c _ => by simp

set_option maxRecDepth 100000 in
theorem block_le {w : World} {base : Nat} {e : TypeId} {size : Nat} {v : Value} {n : Nat} {xs : List Value} (h : w.ownsRow base e size v n xs) {g : Nat} (hg : v.ownBlock = some g) : base ≤ g := by
  obtain ⟨_, h2⟩ := h
  rcases h2 with ⟨rfl, _⟩ | ⟨g', cap, cur, rfl, hb, _⟩
  · simp [Value.ownBlock] at hg
  · simp [Value.ownBlock] at hg; omega

set_option maxRecDepth 100000 in
@[go_sem] theorem conv_bytes (s : ByteArray) (w : World) : (convert 9 27 (.string s)).run Tryd.prog w = .ok (.slice (some ⟨w.heap.size, 0, none⟩) s.size (grownCap w s.size 0 5)) (Lib.bytesWorld w 5 s) :=
  Lib.run_convert_string_bytes w 9 27 5 s Tryd.underlying9 Tryd.underlying27 Tryd.underlying5
set_option maxRecDepth 100000 in
theorem bytesWorld_below (w : World) (e : TypeId) (s : ByteArray) : Below w.heap.size w (Lib.bytesWorld w e s) :=
  ⟨rfl, rfl, rfl, by rw [Lib.bytesWorld_size]; omega, fun k hk => Lib.bytesWorld_at_old w e s k hk⟩
/-- What is known of the bytes that are laid. -/
structure Laid (w : World) (b : Nat) (l : List UInt8) : Prop where
  ex : ∃ C T n, w.heap[b]? = some (.cells C T (n, n + 1)) ∧ l.length ≤ n ∧ ∀ j, j < l.length → C[j]? = some (.int .u8 ((l.getD j 0).toNat : Int))
set_option maxRecDepth 100000 in
theorem laid_bytes (w : World) (s : ByteArray) : Laid (Lib.bytesWorld w 5 s) w.heap.size s.data.toList := by
  refine ⟨⟨_, _, _, Lib.bytesWorld_at_new w 5 s, ?_, fun j hj => ?_⟩⟩
  · simp [Lib.bytesCells]
  · have := Lib.bytesWorld_cell w 5 s j (by simpa using hj)
    rwa [cell_at (Lib.bytesWorld_at_new w 5 s)] at this
set_option maxRecDepth 100000 in
theorem Laid.cell {w : World} {b : Nat} {l : List UInt8} (h : Laid w b l) {j : Nat} (hj : j < l.length) : w.cell? ⟨b, j, none⟩ = some (.int .u8 ((l.getD j 0).toNat : Int)) := by
  obtain ⟨C, T, n, h1, _, h3⟩ := h.ex
  rw [cell_at h1, h3 j hj]
set_option maxRecDepth 100000 in
theorem Laid.free {w : World} {b : Nat} {l : List UInt8} (h : Laid w b l) {j : Nat} (hj : j < l.length) : w.frozen? ⟨b, j, none⟩ = false := by
  obtain ⟨C, T, n, h1, h2, h3⟩ := h.ex
  simp [World.frozen?, h1]; omega
set_option maxRecDepth 100000 in
theorem Laid.set {w : World} {b : Nat} {l : List UInt8} (h : Laid w b l) (j : Nat) (x : UInt8) : Laid (w.setCell ⟨b, j, none⟩ (.int .u8 (x.toNat : Int))) b (l.set j x) := by
  obtain ⟨C, T, n, h1, h2, h3⟩ := h.ex
  refine ⟨⟨_, _, _, at_setCell h1 _ _, by simpa using h2, fun i hi => ?_⟩⟩
  rw [List.length_set] at hi
  rw [Array.getElem?_setIfInBounds]
  by_cases hij : j = i
  · subst hij
    have hlt : j < C.size := by
      have := h3 j hi
      rcases Nat.lt_or_ge j C.size with h' | h'
      · exact h'
      · simp [Array.getElem?_eq_none h'] at this
    simp [hlt, hi]
  · rw [if_neg hij, h3 i hi]; simp [hij]

set_option maxRecDepth 100000 in
theorem u8s_append (l m : List UInt8) : u8s (l ++ m) = u8s l ++ u8s m := by simp [u8s]
set_option maxRecDepth 100000 in
theorem u8s_length (l : List UInt8) : (u8s l).length = l.length := by simp [u8s]
set_option maxRecDepth 100000 in
/-- The cells of a row that is appended to. -/
theorem owns_cell {w : World} {base : Nat} {v : Value} {n : Nat} {l : List UInt8} (h : w.ownsRow base 5 1 v n (u8s l)) (hn : n = l.length) (h0 : 0 < n) :
    ∃ g cap, v = .slice (some ⟨g, 0, none⟩) n cap ∧ base ≤ g ∧ n ≤ cap ∧ (∀ j, j < n → w.cell? ⟨g, j, none⟩ = some (.int .u8 ((l.getD j 0).toNat : Int))) := by
  obtain ⟨_, h2⟩ := h
  rcases h2 with ⟨_, h0'⟩ | ⟨g, cap, cur, rfl, hg, hc, hle, _, hsz, hxs⟩
  · omega
  refine ⟨g, cap, rfl, hg, hle, fun j hj => ?_⟩
  rw [cell_at hc]
  have h3 : cur.toList[j]? = (u8s l)[j]? := by
    have h4 : (cur.toList.take (n * 1))[j]? = cur.toList[j]? := by rw [List.getElem?_take, if_pos (by omega)]
    rw [← h4, hxs]
  rw [← Array.getElem?_toList, h3]
  unfold u8s
  have hjl : j < l.length := by omega
  simp [hjl]

end Go.Proofs.YtceljjnohjnepaaDoor

namespace Go.Proofs.YtceljjnohjnepaaDoor
open Go.RowKit DG

set_option maxRecDepth 100000 in
theorem and63 (x : Int) (h : 0 ≤ x ∧ x < 18446744073709551616) : bits .and .u64 x 9223372036854775807 = x % 9223372036854775808 := by
  obtain ⟨n, rfl⟩ := Int.eq_ofNat_of_zero_le h.1
  rw [show (9223372036854775807 : Int) = ((9223372036854775807 : Nat) : Int) from rfl, u64_and_nat _ _ (by omega) (by decide), show (9223372036854775807 : Nat) = 2 ^ 63 - 1 from rfl, Nat.and_two_pow_sub_one_eq_mod]
  rfl
set_option maxRecDepth 100000 in
theorem top_law {n : Nat} {a0 a1 a2 a3 : Int} (h : W4 n a0 a1 a2 a3) : a3 / 9223372036854775808 = ((n / 57896044618658097711785492504343953926634992332820282019728792003956564819968 : Nat) : Int) ∧ W4 (n % 57896044618658097711785492504343953926634992332820282019728792003956564819968) a0 a1 a2 (a3 % 9223372036854775808) := by
  obtain ⟨l0, l1, l2, l3, u0, u1, u2, u3, hv⟩ := h
  refine ⟨by omega, l0, l1, l2, by omega, u0, u1, u2, by omega, by omega⟩

set_option maxRecDepth 100000 in
set_option maxHeartbeats 1000000 in
theorem top_any (a : Nat) (W : World) (ha : a < p2) :
    Calls Tryd.prog 56 #[.agg (quad a)] W fun e w' => e = .returned (.tuple #[.int .u64 ((a / 57896044618658097711785492504343953926634992332820282019728792003956564819968 : Nat) : Int), .agg (quad (a % 57896044618658097711785492504343953926634992332820282019728792003956564819968))]) ∧ Below W.heap.size W w' := by
  obtain ⟨a0, a1, a2, a3, hq, hw4⟩ := quad_w4 a ha
  have HW4 := hid (top_law hw4)
  obtain ⟨h0, h1, h2, h3, h0', h1', h2', h3', _⟩ := hw4
  rw [hq]
  clear hq
  go_enter Tryd.func56, Tryd.ntmps56
  go_wp2_with fail
  rw [and63 a3 ⟨h3, h3'⟩]
  have hz0 := Int.emod_nonneg a3 (show (9223372036854775808 : Int) ≠ 0 by decide)
  refine still_tail 3 (by kernel_rfl) (by kernel_rfl) ?_
  simp only [List.take_succ_cons, List.take_zero, List.drop_succ_cons, List.drop_zero]
  repeat (first | (refine wpStill_step (fun K hK => ?_); go_simp; refine hK _ ?_; clear hK K; try go_ints))
  refine wpStill_nil ?_
  go_wp2_with fail
  refine bodyPost_ret (v := .tuple #[.int .u64 (a3 / 9223372036854775808), .agg #[.int .u64 a0, .int .u64 a1, .int .u64 a2, .int .u64 (a3 % 9223372036854775808)]]) (by simp [results, Tryd.results56, go_sem]) rfl ?_
  obtain ⟨e1, e2⟩ := HW4.out
  exact ⟨by rw [e1, e2.quad], (below_alloc (below_new _) _).drew⟩


set_option maxRecDepth 100000 in
theorem xor_back (x y : Int) (hx : 0 ≤ x) (hx' : x < 18446744073709551616) (hy : 0 ≤ y) (hy' : y < 18446744073709551616) : bits .xor .u64 x (bits .and .u64 18446744073709551615 (bits .xor .u64 x y)) = y := by
  obtain ⟨a, rfl⟩ := Int.eq_ofNat_of_zero_le hx
  obtain ⟨b, rfl⟩ := Int.eq_ofNat_of_zero_le hy
  rw [u64_xor_nat _ _ (by omega) (by omega)]
  have hlt : a ^^^ b < 18446744073709551616 := Nat.xor_lt_two_pow (n := 64) (by omega) (by omega)
  rw [show (18446744073709551615 : Int) = ((18446744073709551615 : Nat) : Int) from rfl, u64_and_nat _ _ (by decide) hlt, Nat.and_comm, show (18446744073709551615 : Nat) = 2 ^ 64 - 1 from rfl, Nat.and_two_pow_sub_one_eq_mod, Nat.mod_eq_of_lt hlt, u64_xor_nat _ _ (by omega) hlt, ← Nat.xor_assoc, Nat.xor_self, Nat.zero_xor]
set_option maxRecDepth 100000 in
theorem xor_none (x y : Int) (hx : 0 ≤ x) (hx' : x < 18446744073709551616) (hy : 0 ≤ y) (hy' : y < 18446744073709551616) : bits .xor .u64 x (bits .and .u64 0 (bits .xor .u64 x y)) = x := by
  obtain ⟨a, rfl⟩ := Int.eq_ofNat_of_zero_le hx
  obtain ⟨b, rfl⟩ := Int.eq_ofNat_of_zero_le hy
  rw [u64_xor_nat _ _ (by omega) (by omega)]
  have hlt : a ^^^ b < 18446744073709551616 := Nat.xor_lt_two_pow (n := 64) (by omega) (by omega)
  rw [show (0 : Int) = ((0 : Nat) : Int) from rfl, u64_and_nat _ _ (by decide) hlt, Nat.zero_and, u64_xor_nat _ _ (by omega) (by decide), Nat.xor_zero]
attribute [local go_sem] xor_back xor_none


set_option maxRecDepth 100000 in
set_option maxHeartbeats 1000000 in
theorem select_true (a b : Nat) (W : World) (ha : a < p2) (hb : b < p2) : Calls Tryd.prog 52 #[.bool true, .agg (quad a), .agg (quad b)] W fun e w' => e = .returned (.agg (quad b)) ∧ Below W.heap.size W w' := by
  obtain ⟨a0, a1, a2, a3, hq, hw4⟩ := quad_w4 a ha
  obtain ⟨h0, h1, h2, h3, h0', h1', h2', h3', _⟩ := hw4
  obtain ⟨b0, b1, b2, b3, hqb, hwb⟩ := quad_w4 b hb
  obtain ⟨g0, g1, g2, g3, g0', g1', g2', g3', _⟩ := hwb
  rw [hq, hqb]
  clear hq hqb
  go_enter Tryd.func52, Tryd.ntmps52
  go_wp2_with fail
  refine (mask_any true _).mono ?_
  rintro e w' ⟨rfl, rfl⟩
  rw [show maskN true = 18446744073709551615 from rfl]
  go_wp2_with fail
  refine wp_loop_rounds 5 ?_
  rw [rounds_succ]
  go_wp2_with fail
  refine still_tail 14 (by kernel_rfl) (by kernel_rfl) ?_
  simp only [List.take_succ_cons, List.take_zero, List.drop_succ_cons, List.drop_zero]
  repeat (first | (refine wpStill_step (fun K hK => ?_); go_simp; refine hK _ ?_; clear hK K; try go_ints))
  refine wpStill_nil ?_
  go_wp2_with fail
  rw [rounds_succ]
  go_wp2_with fail
  refine still_tail 14 (by kernel_rfl) (by kernel_rfl) ?_
  simp only [List.take_succ_cons, List.take_zero, List.drop_succ_cons, List.drop_zero]
  repeat (first | (refine wpStill_step (fun K hK => ?_); go_simp; refine hK _ ?_; clear hK K; try go_ints))
  refine wpStill_nil ?_
  go_wp2_with fail
  rw [rounds_succ]
  go_wp2_with fail
  refine still_tail 14 (by kernel_rfl) (by kernel_rfl) ?_
  simp only [List.take_succ_cons, List.take_zero, List.drop_succ_cons, List.drop_zero]
  repeat (first | (refine wpStill_step (fun K hK => ?_); go_simp; refine hK _ ?_; clear hK K; try go_ints))
  refine wpStill_nil ?_
  go_wp2_with fail
  rw [rounds_succ]
  go_wp2_with fail
  refine still_tail 14 (by kernel_rfl) (by kernel_rfl) ?_
  simp only [List.take_succ_cons, List.take_zero, List.drop_succ_cons, List.drop_zero]
  repeat (first | (refine wpStill_step (fun K hK => ?_); go_simp; refine hK _ ?_; clear hK K; try go_ints))
  refine wpStill_nil ?_
  go_wp2_with fail
  rw [rounds_succ]
  go_wp2_with fail
  refine bodyPost_ret (v := .agg #[.int .u64 b0, .int .u64 b1, .int .u64 b2, .int .u64 b3]) (by simp [results, Tryd.results52, go_sem]) rfl ⟨rfl, ?_⟩
  repeat (first | exact Below.refl _ _ | exact below_new _ | assumption | refine Below.drew ?_ | refine Below.drewN ?_ _ | refine below_alloc ?_ _)

set_option maxRecDepth 100000 in
set_option maxHeartbeats 1000000 in
theorem select_false (a b : Nat) (W : World) (ha : a < p2) (hb : b < p2) : Calls Tryd.prog 52 #[.bool false, .agg (quad a), .agg (quad b)] W fun e w' => e = .returned (.agg (quad a)) ∧ Below W.heap.size W w' := by
  obtain ⟨a0, a1, a2, a3, hq, hw4⟩ := quad_w4 a ha
  obtain ⟨h0, h1, h2, h3, h0', h1', h2', h3', _⟩ := hw4
  obtain ⟨b0, b1, b2, b3, hqb, hwb⟩ := quad_w4 b hb
  obtain ⟨g0, g1, g2, g3, g0', g1', g2', g3', _⟩ := hwb
  rw [hq, hqb]
  clear hq hqb
  go_enter Tryd.func52, Tryd.ntmps52
  go_wp2_with fail
  refine (mask_any false _).mono ?_
  rintro e w' ⟨rfl, rfl⟩
  rw [show maskN false = 0 from rfl]
  go_wp2_with fail
  refine wp_loop_rounds 5 ?_
  rw [rounds_succ]
  go_wp2_with fail
  refine still_tail 14 (by kernel_rfl) (by kernel_rfl) ?_
  simp only [List.take_succ_cons, List.take_zero, List.drop_succ_cons, List.drop_zero]
  repeat (first | (refine wpStill_step (fun K hK => ?_); go_simp; refine hK _ ?_; clear hK K; try go_ints))
  refine wpStill_nil ?_
  go_wp2_with fail
  rw [rounds_succ]
  go_wp2_with fail
  refine still_tail 14 (by kernel_rfl) (by kernel_rfl) ?_
  simp only [List.take_succ_cons, List.take_zero, List.drop_succ_cons, List.drop_zero]
  repeat (first | (refine wpStill_step (fun K hK => ?_); go_simp; refine hK _ ?_; clear hK K; try go_ints))
  refine wpStill_nil ?_
  go_wp2_with fail
  rw [rounds_succ]
  go_wp2_with fail
  refine still_tail 14 (by kernel_rfl) (by kernel_rfl) ?_
  simp only [List.take_succ_cons, List.take_zero, List.drop_succ_cons, List.drop_zero]
  repeat (first | (refine wpStill_step (fun K hK => ?_); go_simp; refine hK _ ?_; clear hK K; try go_ints))
  refine wpStill_nil ?_
  go_wp2_with fail
  rw [rounds_succ]
  go_wp2_with fail
  refine still_tail 14 (by kernel_rfl) (by kernel_rfl) ?_
  simp only [List.take_succ_cons, List.take_zero, List.drop_succ_cons, List.drop_zero]
  repeat (first | (refine wpStill_step (fun K hK => ?_); go_simp; refine hK _ ?_; clear hK K; try go_ints))
  refine wpStill_nil ?_
  go_wp2_with fail
  rw [rounds_succ]
  go_wp2_with fail
  refine bodyPost_ret (v := .agg #[.int .u64 a0, .int .u64 a1, .int .u64 a2, .int .u64 a3]) (by simp [results, Tryd.results52, go_sem]) rfl ⟨rfl, ?_⟩
  repeat (first | exact Below.refl _ _ | exact below_new _ | assumption | refine Below.drew ?_ | refine Below.drewN ?_ _ | refine below_alloc ?_ _)


set_option maxRecDepth 100000 in
theorem select_any (c : Bool) (a b : Nat) (W : World) (ha : a < p2) (hb : b < p2) : Calls Tryd.prog 52 #[.bool c, .agg (quad a), .agg (quad b)] W fun e w' => e = .returned (.agg (quad (if c then b else a))) ∧ Below W.heap.size W w' := by
  cases c
  · exact select_false a b W ha hb
  · exact select_true a b W ha hb

end Go.Proofs.YtceljjnohjnepaaDoor
