/- Four words, and nine digits, as one value. -/
import Derived.Test.YtoaihbmicdbaiaaNumW1
import Derived.Test.YtoaihbmicdbaiaaRT
import Derived.Test.YtoaihbmicdbaiaaAR
namespace Go.Proofs.Ytoaihbmicdbaiaa
open Go.RowKit DG

@[go_sem] theorem quad_size (n : Nat) : (quad n).size = 4 := rfl
@[go_sem] theorem quad_one (n : Nat) : ones (quad n) = true := rfl
/-- Nine digits. -/
def nine (n : Nat) : Array Value := ints .u64 (digs B30 n 9)
@[go_sem] theorem nine_size (n : Nat) : (nine n).size = 9 := by unfold nine; rw [ints_size, digs_length]
theorem rows_one (k : IntKind) (l : List Nat) : ones (ints k l) = true := by
  unfold ones ints
  rw [List.all_eq_true]
  intro v hv
  simp only [List.mem_map] at hv
  obtain ⟨x, _, rfl⟩ := hv
  rfl
@[go_sem] theorem nine_one (n : Nat) : ones (nine n) = true := rows_one _ _
theorem info_Elem : (Try.prog.info? 24).map (·.size) = some 4 := by kernel_rfl
                                                                           theorem exl_Elem {r : Operand → Value} {dst : Option Nat} {x : Operand} {t : TypeId} {pos : String} {af : Array Edge} {g : Option (Nat × Bool)} : execOp r ⟨dst, .load 24 x, t, pos, af, g⟩ = (do let v ← loadRow 24 (r x); pure (Next.value v)) := rfl
                                                                           theorem exs_Elem {r : Operand → Value} {dst : Option Nat} {x y : Operand} {t : TypeId} {pos : String} {af : Array Edge} {g : Option (Nat × Bool)} : execOp r ⟨dst, .store 24 x y, t, pos, af, g⟩ = (do storeRow 24 (r x) (r y); pure Next.skip) := rfl
                                                                           theorem ldr_Elem (b : Nat) (w : World) : (loadRow 24 (.pointer (some ⟨b, 0, none⟩))).run Try.prog w = match hget w b with | some (.cells c _ _) => if c.size = 4 then .ok (.agg c) w else stuckL Try.prog 24 b w | _ => stuckL Try.prog 24 b w := loadRow_run Try.underlying24 rfl info_Elem b w
                                                                           theorem str_Elem (b : Nat) (c' : Array Value) (w : World) : (storeRow 24 (.pointer (some ⟨b, 0, none⟩)) (.agg c')).run Try.prog w = match hget w b with | some (.cells c T (0, 0)) => if c.size = 4 then (if c'.size = 4 then (if ones c' = true then .ok () (blk w b (.cells c' T (0, 0))) else stuckS Try.prog 24 b (.agg c') w) else stuckS Try.prog 24 b (.agg c') w) else stuckS Try.prog 24 b (.agg c') w | _ => stuckS Try.prog 24 b (.agg c') w := storeRow_run info_Elem b c' w
theorem info_Num : (Try.prog.info? 30).map (·.size) = some 9 := by kernel_rfl
                                                                                                                                                                                                                                                                                                                                                                                                                                                                                                                                                                                  theorem exl_Num {r : Operand → Value} {dst : Option Nat} {x : Operand} {t : TypeId} {pos : String} {af : Array Edge} {g : Option (Nat × Bool)} : execOp r ⟨dst, .load 30 x, t, pos, af, g⟩ = (do let v ← loadRow 30 (r x); pure (Next.value v)) := rfl
                                                                                                                                                                                                                                                                                                                                                                                                                                                                                                                                                                                  theorem exs_Num {r : Operand → Value} {dst : Option Nat} {x y : Operand} {t : TypeId} {pos : String} {af : Array Edge} {g : Option (Nat × Bool)} : execOp r ⟨dst, .store 30 x y, t, pos, af, g⟩ = (do storeRow 30 (r x) (r y); pure Next.skip) := rfl
                                                                                                                                                                                                                                                                                                                                                                                                                                                                                                                                                                                  theorem ldr_Num (b : Nat) (w : World) : (loadRow 30 (.pointer (some ⟨b, 0, none⟩))).run Try.prog w = match hget w b with | some (.cells c _ _) => if c.size = 9 then .ok (.agg c) w else stuckL Try.prog 30 b w | _ => stuckL Try.prog 30 b w := loadRow_run Try.underlying30 rfl info_Num b w
                                                                                                                                                                                                                                                                                                                                                                                                                                                                                                                                                                                  theorem str_Num (b : Nat) (c' : Array Value) (w : World) : (storeRow 30 (.pointer (some ⟨b, 0, none⟩)) (.agg c')).run Try.prog w = match hget w b with | some (.cells c T (0, 0)) => if c.size = 9 then (if c'.size = 9 then (if ones c' = true then .ok () (blk w b (.cells c' T (0, 0))) else stuckS Try.prog 30 b (.agg c') w) else stuckS Try.prog 30 b (.agg c') w) else stuckS Try.prog 30 b (.agg c') w | _ => stuckS Try.prog 30 b (.agg c') w := storeRow_run info_Num b c' w
/-- The zero values. -/
theorem quad0 : quad 0 = #[.int .u64 0, .int .u64 0, .int .u64 0, .int .u64 0] := rfl
theorem to_quad0 : #[.int .u64 0, .int .u64 0, .int .u64 0, .int .u64 0] = quad 0 := rfl
theorem to_nine0 : #[.int .u64 0, .int .u64 0, .int .u64 0, .int .u64 0, .int .u64 0, .int .u64 0, .int .u64 0, .int .u64 0, .int .u64 0] = nine 0 := rfl

end Go.Proofs.Ytoaihbmicdbaiaa
