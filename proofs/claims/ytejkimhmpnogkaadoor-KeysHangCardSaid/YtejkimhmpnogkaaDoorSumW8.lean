/- The walks of Of and of bytes.Repeat at one byte, 64 times. -/
import Derived.Test.YtejkimhmpnogkaaDoorSumW7
import Derived.Laws.Externs
import Derived.Lib.MakeNoZero
import Derived.Lib.MinMax
namespace Go.Proofs.YtejkimhmpnogkaaDoor
open Go.RowKit

set_option maxHeartbeats 1000000 in
theorem of_any (s : ByteArray) (W : World) (hT : Tab W) (hs : s.size ≤ 137438953472) : Calls Tryd.prog 15 #[.string s] W fun e w' => e = .returned (.string ⟨(SM.sum s.data.toList).toArray⟩) ∧ Below W.heap.size W w' := by
  have HT := hid hT
  have h0 := hT.lt
  have hsl : ([] : List UInt8).length = 0 := rfl
  have hl : s.data.toList.length = s.size := by simp
  have HL := hid hl
  clear hT hl
  go_enter Tryd.func15, Tryd.ntmps15
  go_wp2_with fail
  refine (new_any W).mono ?_
  rintro e w1 ⟨rfl, hn, hb⟩
  have HN := hid hn
  have HB := hid hb
  have T1 := hid (HT.out.keep hb)
  clear hn hb
  have ha := add_any s HN.out h0 HB.out.size T1.out (by simp; omega)
  have HA := hid ha
  clear ha
  go_wp2_with fail
  refine HA.out.mono ?_
  rintro e w2 ⟨rfl, hn, hb⟩
  rw [List.nil_append] at hn
  have B2 := hid (HB.out.trans hb)
  have T2 := hid (T1.out.belowB hb h0)
  have hsm := sum_any hn h0 T2.out (by rw [HL.out]; exact hs)
  have HSM := hid hsm
  clear hn hb hsm HA T1 HB HN
  go_wp2_with fail
  refine HSM.out.mono ?_
  rintro e w3 ⟨rfl, hb3⟩
  go_wp2_with fail
  go_ret
  exact ⟨rfl, below_to B2.out hb3⟩

theorem mk_run (n : Nat) (hn : n ≤ 1099511627776) (w : World) : ∃ cs : Array Value, (callFunc 63 #[.int .i64 (n : Int)]).run Tryd.prog w = .ok (.value (.slice (some ⟨w.heap.size, 0, none⟩) n cs.size)) (w.drew.drew.alloc (.cells cs 5)) ∧ n ≤ cs.size ∧ cs.size ≤ maxLen := by
  obtain ⟨cs, hr, h1, h2⟩ := Lib.run_makeNoZero (P := Tryd.prog) w #[3] 57 5 Tryd.underlying57 n (by omega)
  have hx := run_callFunc_extern (P := Tryd.prog) (f := 63) (fn := Tryd.f63) (e := Extern.BytealgMakeNoZero.makeNoZero #[3] #[57]) (by kernel_rfl) (by kernel_rfl) (by kernel_rfl) (by kernel_rfl) (by kernel_rfl) #[.int .i64 (n : Int)] w
  refine ⟨cs, ?_, h1, h2 (by unfold maxLen; omega)⟩
  rw [hx, hr]
  rfl

end Go.Proofs.YtejkimhmpnogkaaDoor
