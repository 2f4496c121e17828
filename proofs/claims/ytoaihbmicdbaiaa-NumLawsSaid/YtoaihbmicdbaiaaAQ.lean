/- Arrays of numbers: an element, and whether two are the same. -/
import Derived.Test.YtoaihbmicdbaiaaAR
namespace Go.Proofs.Ytoaihbmicdbaiaa
open Go.RowKit

section
variable {P : Program}
theorem run_part_int {e : TypeId} {k : IntKind} (he : P.underlying e = some (.int k)) (cs : Array Value) (j : Nat) (v : Value) (hv : cs[j]? = some v) (w : World) : (part e cs j).run P w = .ok v w := by
  unfold part
  have hagg : (isAgg e).run P w = .ok false w := by
    unfold isAgg
    rw [Sem.run_bind, run_underlying he w]
    rfl
  simp [Sem.run_bind, hagg, hv]

theorem run_forIn_same (f : Nat → Option Bool × Unit → Sem (ForInStep (Option Bool × Unit))) (xs ys : List Nat) (n : Nat) (hx : xs.length = n) (hy : ys.length = n) (w : World)
    (hf : ∀ i, i < n → (f i (none, ())).run P w = .ok (if xs.getD i 0 = ys.getD i 0 then .yield (none, ()) else .done (some false, ())) w) :
    ∀ m s, s + m = n → (forIn (List.range' s m) (none, ()) f).run P w = .ok (if xs.drop s = ys.drop s then (none, ()) else (some false, ())) w := by
  intro m
  induction m with
  | zero =>
    intro s hs
    rw [List.drop_eq_nil_of_le (by omega), List.drop_eq_nil_of_le (by omega)]
    simp [Sem.run_pure]
  | succ m ih =>
    intro s hs
    rw [List.range'_succ, List.forIn_cons, Sem.run_bind, hf s (by omega)]
    have e1 : xs.drop s = xs.getD s 0 :: xs.drop (s + 1) := by rw [List.drop_eq_getElem_cons (by omega)]; simp [show s < xs.length by omega]
    have e2 : ys.drop s = ys.getD s 0 :: ys.drop (s + 1) := by rw [List.drop_eq_getElem_cons (by omega)]; simp [show s < ys.length by omega]
    rw [e1, e2]
    by_cases h : xs.getD s 0 = ys.getD s 0
    · rw [if_pos h, Result.andThen_ok]
      simp only [h, List.cons.injEq, true_and]
      exact ih (s + 1) (by omega)
    · rw [if_neg h, Result.andThen_ok, if_neg (by simp only [List.cons.injEq]; exact fun hh => h hh.1)]
      rfl

theorem run_equalIn_ints {t e : TypeId} {n : Nat} {k : IntKind} (ht : P.underlying t = some (.array n e)) (he : P.underlying e = some (.int k)) (hs : (P.info? e).map (·.size) = some 1) (d : Nat) (xs ys : List Nat) (hx : xs.length = n) (hy : ys.length = n) (w : World) :
    (Op.equalIn (d + 2) t (.agg (ints k xs)) (.agg (ints k ys))).run P w = .ok (decide (xs = ys)) w := by
  have hsz : (sizeOf e).run P w = .ok 1 w := by
    cases hq : P.info? e with
    | none => simp [hq] at hs
    | some i => simp [hq] at hs; simp [sizeOf, typeInfo, hq, hs]
  rw [Op.equalIn]
  simp only [Sem.run_bind, run_underlying ht, Result.andThen_ok, hsz, Std.Legacy.Range.forIn_eq_forIn_range', Std.Legacy.Range.size, Nat.sub_zero, Nat.add_sub_cancel, Nat.div_one]
  rw [run_forIn_same (P := P) _ xs ys n hx hy w ?_ _ 0 ?_]
  · rw [List.drop_zero, List.drop_zero, Result.andThen_ok]
    by_cases h : xs = ys
    · simp [h, Sem.run_pure]
    · simp [h, Sem.run_pure]
  · intro i hi
    have p1 := run_part_int he (ints k xs) i _ (ints_get k xs (show i < xs.length by omega)) w
    have p2 := run_part_int he (ints k ys) i _ (ints_get k ys (show i < ys.length by omega)) w
    simp only [Nat.mul_one, Sem.run_bind, p1, p2, Result.andThen_ok, run_equalIn_int w d e k k _ _ he]
    by_cases h : xs.getD i 0 = ys.getD i 0
    · rw [if_pos h, h]; simp [Sem.run_pure]
    · rw [if_neg h]
      have : ((((xs.getD i 0 : Nat) : Int)) == ((ys.getD i 0 : Nat) : Int)) = false := beq_eq_false_iff_ne.2 (by omega)
      rw [this]; simp [Sem.run_pure]
  · simp

/-- An element of an array of numbers. -/
theorem run_index_ints {t e : TypeId} {n : Nat} {k : IntKind} (ht : P.underlying t = some (.array n e)) (he : P.underlying e = some (.int k)) (hs : (P.info? e).map (·.size) = some 1) (l : List Nat) (hl : l.length = n) (i : Nat) (hi : i < n) (w : World) :
    (Instr.index t (.agg (ints k l)) (.int .i64 (i : Int))).run P w = .ok (.int k ((l.getD i 0 : Nat) : Int)) w := by
  have hsz : (sizeOf e).run P w = .ok 1 w := by
    cases hq : P.info? e with
    | none => simp [hq] at hs
    | some i => simp [hq] at hs; simp [sizeOf, typeInfo, hq, hs]
  unfold Instr.index
  simp only [Sem.run_bind, asIntOf, Sem.run_pure, Result.andThen_ok, run_underlying ht]
  rw [if_pos (by omega)]
  simp only [Sem.run_bind, hsz, Result.andThen_ok, Nat.mul_one, Int.toNat_natCast]
  exact run_part_int he _ _ _ (ints_get k l (by omega)) w
end

end Go.Proofs.Ytoaihbmicdbaiaa
