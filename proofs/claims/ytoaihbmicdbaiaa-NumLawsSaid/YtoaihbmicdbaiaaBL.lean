/- Laws for the walk: bits.Add64, bits.Sub64 (the model's own rows), with what they say as inequalities. -/
import Derived.Test.YtoaihbmicdbaiaaB
namespace Go.Proofs.Ytoaihbmicdbaiaa
open Go.RowKit

theorem call_add64 (x y c : Int) (hx : 0 ≤ x) (hy : 0 ≤ y) (hc0 : 0 ≤ c) (hc : c ≤ 1) (w : World) :
    (callFunc 39 #[.int .u64 x, .int .u64 y, .int .u64 c]).run Try.prog w = .ok (.value (.tuple #[.int .u64 ((x + y + c) % 18446744073709551616), .int .u64 ((x + y + c) / 18446744073709551616)])) w := by
  rw [run_callFunc_extern (e := add64Entry) Try.func39 (by kernel_rfl) (by kernel_rfl) (by kernel_rfl) (by kernel_rfl), run_add64 x y c hx hy hc0 hc]
  rfl

def sub64Entry : Array Value → Sem Value := fun args => do
  let (x, y, b) ← Extern.MathBitsCarry.three "Sub64" args
  pure (Extern.MathBitsCarry.pair ((x + Extern.MathBitsCarry.m64 - y - b) % Extern.MathBitsCarry.m64) (if x < y + b then 1 else 0))

theorem run_sub64 {P : Program} (x y c : Int) (hx : 0 ≤ x) (hy : 0 ≤ y ∧ y < 18446744073709551616) (hc0 : 0 ≤ c) (hc : c ≤ 1) (w : World) :
    (sub64Entry #[.int .u64 x, .int .u64 y, .int .u64 c]).run P w = .ok (.tuple #[.int .u64 ((x - y - c) % 18446744073709551616), .int .u64 (if x < y + c then 1 else 0)]) w := by
  have key : ∀ k : Nat, k ≤ 1 → (sub64Entry #[.int .u64 x, .int .u64 y, .int .u64 (k : Int)]).run P w =
      .ok (Extern.MathBitsCarry.pair ((x.toNat + Extern.MathBitsCarry.m64 - y.toNat - k) % Extern.MathBitsCarry.m64) (if x.toNat < y.toNat + k then 1 else 0)) w := by
    intro k hk
    have : k = 0 ∨ k = 1 := by omega
    rcases this with rfl | rfl <;> rfl
  obtain ⟨k, rfl⟩ := Int.eq_ofNat_of_zero_le hc0
  rw [key k (by omega)]
  obtain ⟨X, rfl⟩ := Int.eq_ofNat_of_zero_le hx
  obtain ⟨Y, rfl⟩ := Int.eq_ofNat_of_zero_le hy.1
  simp only [Extern.MathBitsCarry.pair, Extern.MathBitsCarry.m64, Int.toNat_natCast]
  have e1 : (Int.ofNat ((X + 2 ^ 64 - Y - k) % 2 ^ 64)) = ((X : Int) - Y - k) % 18446744073709551616 := by
    simp only [Int.ofNat_eq_natCast]; omega
  have e2 : (Int.ofNat (if X < Y + k then 1 else 0)) = if (X : Int) < Y + k then 1 else 0 := by
    split <;> split <;> first | rfl | omega
  rw [e1, e2]

theorem call_sub64 (x y c : Int) (hx : 0 ≤ x) (hy : 0 ≤ y ∧ y < 18446744073709551616) (hc0 : 0 ≤ c) (hc : c ≤ 1) (w : World) :
    (callFunc 41 #[.int .u64 x, .int .u64 y, .int .u64 c]).run Try.prog w = .ok (.value (.tuple #[.int .u64 ((x - y - c) % 18446744073709551616), .int .u64 (if x < y + c then 1 else 0)])) w := by
  rw [run_callFunc_extern (e := sub64Entry) Try.func41 (by kernel_rfl) (by kernel_rfl) (by kernel_rfl) (by kernel_rfl), run_sub64 x y c hx hy hc0 hc]
  rfl

section
variable {ops : Array Oper} {rest : List Oper} {o : Oper} {a : Act} {w : World} {Q : Exit → Act → World → Prop}
theorem wpList_extern {P : Program} {f : FuncId} {p q r : Operand} {ts : Array TypeId} {v : Value} (hg : o.guard = none) (ho : o.op = .call ⟨.value (.func f), #[p, q, r], ts⟩)
    (hr : (callFunc f #[a.eval p, a.eval q, a.eval r]).run P w = .ok (.value v) w) (h : wpList P ops Q rest (a.put o.dst v) w) : wpList P ops Q (o :: rest) a w := by
  refine wpList_plain hg fun K hK => ?_
  unfold Oper.wp
  have e : (execOp a.eval o).run P w = .ok (.value v) w := by
    simp only [execOp, ho]
    simp [go_sem, Act.eval] at hr ⊢
    simpa using hr
  rw [e]
  exact hK _ _ h

theorem wpList_add64 {p q r : Operand} {ts : Array TypeId} (hg : o.guard = none) (ho : o.op = .call ⟨.value (.func 39), #[p, q, r], ts⟩) (x y c : Int) (ex : a.eval p = .int .u64 x) (ey : a.eval q = .int .u64 y) (ec : a.eval r = .int .u64 c)
    (hx : 0 ≤ x) (hy : 0 ≤ y) (hc0 : 0 ≤ c) (hc : c ≤ 1) (hb : x < 18446744073709551616 ∧ y < 18446744073709551616)
    (h : ∀ lo hi : Int, 0 ≤ lo → lo < 18446744073709551616 → 0 ≤ hi → hi ≤ 1 → lo + 18446744073709551616 * hi ≤ x + y + c → x + y + c ≤ lo + 18446744073709551616 * hi →
      wpList Try.prog ops Q rest (a.put o.dst (.tuple #[.int .u64 lo, .int .u64 hi])) w) : wpList Try.prog ops Q (o :: rest) a w :=
  wpList_extern hg ho (by rw [ex, ey, ec]; exact call_add64 x y c hx hy hc0 hc w) (h _ _ (by omega) (by omega) (by omega) (by omega) (by omega) (by omega))

theorem wpList_sub64 {p q r : Operand} {ts : Array TypeId} (hg : o.guard = none) (ho : o.op = .call ⟨.value (.func 41), #[p, q, r], ts⟩) (x y c : Int) (ex : a.eval p = .int .u64 x) (ey : a.eval q = .int .u64 y) (ec : a.eval r = .int .u64 c)
    (hx : 0 ≤ x) (hy : 0 ≤ y) (hc0 : 0 ≤ c) (hc : c ≤ 1) (hb : x < 18446744073709551616 ∧ y < 18446744073709551616)
    (h : ∀ lo hi : Int, 0 ≤ lo → lo < 18446744073709551616 → 0 ≤ hi → hi ≤ 1 → lo + y + c ≤ x + 18446744073709551616 * hi → x + 18446744073709551616 * hi ≤ lo + y + c →
      wpList Try.prog ops Q rest (a.put o.dst (.tuple #[.int .u64 lo, .int .u64 hi])) w) : wpList Try.prog ops Q (o :: rest) a w :=
  wpList_extern hg ho (by rw [ex, ey, ec]; exact call_sub64 x y c hx ⟨hy, hb.2⟩ hc0 hc w) (h _ _ (by omega) (by omega) (by split <;> omega) (by split <;> omega) (by split <;> omega) (by split <;> omega))
end

set_option maxHeartbeats 400000 in
theorem mul64_any (x y : Int) (w : World) (hx : 0 ≤ x ∧ x < 18446744073709551616) (hy : 0 ≤ y ∧ y < 18446744073709551616) :
    Calls Try.prog 44 #[.int .u64 x, .int .u64 y] w fun e w' => e = .returned (.tuple #[.int .u64 (x * y / 18446744073709551616), .int .u64 (x * y % 18446744073709551616)]) ∧ w = w' := by
  have E := hid (mul64_arith x y hx.1 hx.2 hy.1 hy.2)
  go_enter Try.func44, Try.ntmps44
  go_wp2
  go_ret2
  refine ⟨?_, rfl⟩
  rw [← E.out]
  simp only [and_low32 x hx.1 hx.2, and_low32 y hy.1 hy.2, IntKind.wrap_u64, Array.getD]
  simp only [and_low32 (_ % 18446744073709551616) (Int.emod_nonneg _ (by decide)) (Int.emod_lt_of_pos _ (by decide))]
  rfl

/-- The same with names for the two words. -/
theorem mul64_facts (x y : Int) (hx : 0 ≤ x ∧ x < 18446744073709551616) (hy : 0 ≤ y ∧ y < 18446744073709551616) :
    ∃ hi lo : Int, x * y / 18446744073709551616 = hi ∧ x * y % 18446744073709551616 = lo ∧ 0 ≤ hi ∧ hi ≤ 18446744073709551614 ∧ 0 ≤ lo ∧ lo < 18446744073709551616 ∧ x * y = lo + 18446744073709551616 * hi ∧ lo + 18446744073709551616 * hi ≤ 340282366920938463426481119284349108225 := by
  have h1 : x * y ≤ 18446744073709551615 * 18446744073709551615 := Int.mul_le_mul (by omega) (by omega) hy.1 (by omega)
  have h2 : 0 ≤ x * y := Int.mul_nonneg hx.1 hy.1
  exact ⟨_, _, rfl, rfl, by omega, by omega, by omega, by omega, by omega, by omega⟩

/-- A number below 2^256 in four words. -/
def quad (n : Nat) : Array Value := #[.int .u64 ((n % 18446744073709551616 : Nat) : Int), .int .u64 ((n / 18446744073709551616 % 18446744073709551616 : Nat) : Int),
  .int .u64 ((n / 340282366920938463463374607431768211456 % 18446744073709551616 : Nat) : Int), .int .u64 ((n / 6277101735386680763835789423207666416102355444464034512896 % 18446744073709551616 : Nat) : Int)]
/-- What four words are. -/
structure W4 (n : Nat) (a0 a1 a2 a3 : Int) : Prop where
  l0 : 0 ≤ a0
  l1 : 0 ≤ a1
  l2 : 0 ≤ a2
  l3 : 0 ≤ a3
  u0 : a0 < 18446744073709551616
  u1 : a1 < 18446744073709551616
  u2 : a2 < 18446744073709551616
  u3 : a3 < 18446744073709551616
  eq : a0 + 18446744073709551616 * a1 + 340282366920938463463374607431768211456 * a2 + 6277101735386680763835789423207666416102355444464034512896 * a3 = n
theorem quad_w4 (n : Nat) (h : n < 115792089237316195423570985008687907853269984665640564039457584007913129639936) : ∃ a0 a1 a2 a3 : Int, quad n = #[.int .u64 a0, .int .u64 a1, .int .u64 a2, .int .u64 a3] ∧ W4 n a0 a1 a2 a3 :=
  ⟨_, _, _, _, rfl, by constructor <;> omega⟩
theorem W4.quad {n : Nat} {a0 a1 a2 a3 : Int} (h : W4 n a0 a1 a2 a3) : quad n = #[.int .u64 a0, .int .u64 a1, .int .u64 a2, .int .u64 a3] := by
  obtain ⟨h1, h2, h3, h4, h5, h6, h7, h8, h9⟩ := h
  unfold Proofs.Ytoaihbmicdbaiaa.quad
  congr 1
  simp only [List.cons.injEq, Value.int.injEq, true_and, and_true]
  omega

theorem and1_shr (x r : Nat) (hx : x < 18446744073709551616) : bits .and .u64 ((x : Int) / (2 : Int) ^ r) 1 = ((x / 2 ^ r % 2 : Nat) : Int) := by
  have e : ((x : Int) / (2 : Int) ^ r) = ((x / 2 ^ r : Nat) : Int) := by rw [Int.natCast_ediv, Int.natCast_pow]; rfl
  have hle : x / 2 ^ r ≤ x := Nat.div_le_self _ _
  rw [e, show (1 : Int) = ((1 : Nat) : Int) from rfl, u64_and_nat _ _ (by omega) (by decide), nat_mask1]

theorem or_byte (x c r : Nat) (hx : x < 2 ^ (8 * r)) (hc : c < 256) (hr : r < 8) :
    bits .or .u64 (x : Int) (IntKind.u64.wrap (IntKind.u64.wrap (c : Int) * (2 : Int) ^ (r * 8))) = ((x + c * 2 ^ (8 * r) : Nat) : Int) := by
  have h2 : 2 ^ (8 * r) ≤ 2 ^ 56 := Nat.pow_le_pow_right (by decide) (by omega)
  have h1 : c * 2 ^ (8 * r) ≤ 255 * 2 ^ (8 * r) := Nat.mul_le_mul_right _ (by omega)
  have e1 : IntKind.u64.wrap (c : Int) = (c : Int) := IntWalk.u64_in _ (by omega)
  have e2 : ((c : Int) * (2 : Int) ^ (r * 8)) = ((c * 2 ^ (8 * r) : Nat) : Int) := by
    rw [Nat.mul_comm r 8, Int.natCast_mul, Int.natCast_pow]; rfl
  rw [e1, e2, IntWalk.u64_in _ (by omega), u64_or_nat _ _ (by omega) (by omega), Nat.or_comm, nat_join (8 * r) _ _ (Nat.mul_mod_left _ _) hx, Nat.add_comm]

theorem or1_facts (a b : Int) (ha : 0 ≤ a) (hb : 0 ≤ b ∧ b ≤ 1) :
    ∃ x : Int, bits .or .u64 (IntKind.u64.wrap (a * 2)) b = x ∧ 0 ≤ x ∧ x < 18446744073709551616 ∧ x ≤ a * 2 % 18446744073709551616 + b ∧ a * 2 % 18446744073709551616 + b ≤ x := by
  refine ⟨_, rfl, ?_⟩
  rw [IntKind.wrap_u64, u64_or _ _ (Int.emod_nonneg _ (by decide)) (Int.emod_lt_of_pos _ (by decide)) hb.1 (by omega), nat_join 1 _ _ (by omega) (by omega)]
  omega

end Go.Proofs.Ytoaihbmicdbaiaa
