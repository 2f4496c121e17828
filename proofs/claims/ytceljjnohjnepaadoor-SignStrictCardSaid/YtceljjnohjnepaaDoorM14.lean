/- The walk of the document's MulAdd. The walks of Clamp, of the order's and the document's. The order of the base point is a prime. What a clamped secret is; which multiples of the base point are the zero point. Points as the document has them: three numbers; what they stand for; sums and multiples of them. Signatures: what a secret's key is, its signature of a text, which are verified: plain. Signatures, the program's: digests of texts as numbers, multiples of the base point, what a secret holds. -/
import Derived.Test.YtceljjnohjnepaaDoorM13
import Derived.Test.YtceljjnohjnepaaDoorM03
import Derived.Test.YtceljjnohjnepaaDoorM01
import Derived.Test.YtceljjnohjnepaaDoorM10
import Derived.Test.YtceljjnohjnepaaDoorM06
import Derived.Test.YtceljjnohjnepaaDoorM12
import Derived.Test.YtceljjnohjnepaaDoorM11
namespace Go.Proofs.YtceljjnohjnepaaDoor
open Go.RowKit DG

set_option maxRecDepth 100000 in
@[go_sem] theorem make65 (w : World) : (Instr.makeSlice 27 (.int .i64 65) (.int .i64 65)).run Tryd.prog w = .ok (.slice (some ⟨w.heap.size, 0, none⟩) 65 65) (w.alloc (.cells (ints .u8 (List.replicate 65 0)) 5)) := by kernel_rfl

namespace DG
set_option maxRecDepth 100000 in
theorem val_take_succ2 {B : Nat} (l : List Nat) {k : Nat} (h : k < l.length) : val B (l.take (k + 1)) = val B (l.take k) + l.getD k 0 * B ^ k := by
  rw [List.take_succ_eq_append_getElem h, val_append, List.length_take, Nat.min_eq_left (by omega), getD_at h]
  simp [val, Nat.mul_comm]
set_option maxRecDepth 100000 in
theorem oadd_at {B : Nat} {l : List Nat} {j x : Nat} (h : j < l.length) : val B (l.set j (l.getD j 0 + x)) = val B l + x * B ^ j := by
  have := val_set (B := B) h (l.getD j 0 + x)
  rw [Nat.add_mul] at this
  omega
set_option maxRecDepth 100000 in
theorem otake_set_succ {l : List Nat} {j x : Nat} (h : j < l.length) (B : Nat) : val B ((l.set j x).take (j + 1)) = val B (l.take j) + x * B ^ j := by
  rw [val_take_succ2 _ (by simpa using h)]
  congr 1
  · congr 1; exact List.take_set_of_le (Nat.le_refl _)
  · simp [h]
set_option maxRecDepth 100000 in
/-- One digit of carrying. -/
theorem ocarry1 {o t : List Nat} {k cr d cr' : Nat} (hk : k < o.length) (hkt : k < t.length) (h : val 256 (o.take k) + cr * 256 ^ k = val 256 (t.take k)) (hx : d + cr' * 256 = t.getD k 0 + cr) :
    val 256 ((o.set k d).take (k + 1)) + cr' * 256 ^ (k + 1) = val 256 (t.take (k + 1)) := by
  rw [otake_set_succ hk, val_take_succ2 t hkt, ← h]
  have h3 : (d + cr' * 256) * 256 ^ k = (t.getD k 0 + cr) * 256 ^ k := by rw [hx]
  rw [Nat.add_mul, Nat.add_mul, Nat.mul_assoc, ← Nat.pow_succ', Nat.succ_eq_add_one] at h3
  omega
end DG

end Go.Proofs.YtceljjnohjnepaaDoor

namespace Go.Proofs.YtceljjnohjnepaaDoor
open Go.RowKit DG

def clampL (l : List UInt8) : List UInt8 := (l.set 0 (l.getD 0 0 &&& 248)).set 31 ((l.getD 31 0 &&& 127) ||| 64)
set_option maxRecDepth 100000 in
theorem and248 (x : UInt8) : bits .and .u8 (x.toNat : Int) 248 = ((x &&& 248).toNat : Int) := by
  rw [show (248 : Int) = ((248 : Nat) : Int) from rfl, u8_and_nat _ _ x.toNat_lt (by decide), UInt8.toNat_and]; rfl
set_option maxRecDepth 100000 in
theorem and127 (x : UInt8) : bits .and .u8 (x.toNat : Int) 127 = ((x &&& 127).toNat : Int) := by
  rw [show (127 : Int) = ((127 : Nat) : Int) from rfl, u8_and_nat _ _ x.toNat_lt (by decide), UInt8.toNat_and]; rfl
set_option maxRecDepth 100000 in
theorem or64 (x : UInt8) : bits .or .u8 (x.toNat : Int) 64 = ((x ||| 64).toNat : Int) := by
  rw [show (64 : Int) = ((64 : Nat) : Int) from rfl, u8_or_nat _ _ x.toNat_lt (by decide), UInt8.toNat_or]; rfl
set_option maxRecDepth 100000 in
theorem andNot7 (x : UInt8) : bits .andNot .u8 (x.toNat : Int) 7 = ((x &&& 248).toNat : Int) := by
  rw [show (7 : Int) = ((7 : Nat) : Int) from rfl, u8_andNot_nat _ _ x.toNat_lt (by decide), UInt8.toNat_and]; rfl
set_option maxRecDepth 100000 in
theorem andNot128 (x : UInt8) : bits .andNot .u8 (x.toNat : Int) 128 = ((x &&& 127).toNat : Int) := by
  rw [show (128 : Int) = ((128 : Nat) : Int) from rfl, u8_andNot_nat _ _ x.toNat_lt (by decide), UInt8.toNat_and]; rfl

set_option maxRecDepth 100000 in
set_option maxHeartbeats 400000 in
theorem Clamp_32 (s : ByteArray) (W : World) (h32 : s.size = 32) :
    Calls Tryd.prog 24 #[.string s] W fun e w' => e = .returned (.tuple #[.string ⟨(clampL s.data.toList).toArray⟩, .int .i64 0]) ∧ Below W.heap.size W w' := by
  have hn : ((s.size : Int) != 32) = false := by rw [bne_eq_false_iff_eq]; omega
  have HN := hid h32
  have hll : s.data.toList.length = 32 := by simpa using h32
  obtain ⟨l, hl⟩ : ∃ l, s.data.toList = l := ⟨_, rfl⟩
  rw [hl] at hll ⊢
  have HLL := hid hll
  have HL := hid hl
  clear hll hl
  go_enter Tryd.func24, Tryd.ntmps24
  go_upto_region 4 with (fail)
  clear hn
  have hL := laid_bytes W s
  have hB := hid (bytesWorld_below W 5 s)
  rw [HL.out] at hL
  clear h32 HN
  generalize Lib.bytesWorld W 5 s = w1 at *
  generalize grownCap W 32 0 5 = cap at *
  generalize hNN : W.heap.size = N at *
  have hlen := HLL.out
  obtain ⟨x0, hx0⟩ : ∃ x, l.getD 0 0 = x := ⟨_, rfl⟩
  obtain ⟨x1, hx1⟩ : ∃ x, l.getD 31 0 = x := ⟨_, rfl⟩
  have hcl : clampL l = (l.set 0 (x0 &&& 248)).set 31 ((x1 &&& 127) ||| 64) := by unfold clampL; rw [hx0, hx1]
  have HCL := hid hcl
  have c0 := hL.cell (j := 0) (by omega)
  have c1 := hL.cell (j := 31) (by omega)
  have f0 := hL.free (j := 0) (by omega)
  have f1 := hL.free (j := 31) (by omega)
  rw [hx0] at c0
  rw [hx1] at c1
  have L2 := (hL.set 0 (x0 &&& 248)).set 31 (x1 &&& 127)
  have L3 := hid (L2.set 31 ((x1 &&& 127) ||| 64))
  rw [List.set_set] at L3
  have BE := hid (((hB.out.setCell (p := ⟨N, 0, none⟩) (Nat.le_refl _) (.int .u8 ((x0 &&& 248).toNat : Int))).setCell (p := ⟨N, 31, none⟩) (Nat.le_refl _) (.int .u8 ((x1 &&& 127).toNat : Int))).setCell (p := ⟨N, 31, none⟩) (Nat.le_refl _) (.int .u8 (((x1 &&& 127) ||| 64).toNat : Int)))
  clear hlen hcl hx0 hx1 L2 hL
  go_upto_region 7 with (fail)
  rw [and248, and127, or64]
  have l3 := L3.out
  have be := BE.out
  generalize (((x0 &&& 248).toNat : Nat) : Int) = v0 at *
  generalize (((x1 &&& 127).toNat : Nat) : Int) = v1 at *
  generalize ((((x1 &&& 127) ||| 64).toNat : Nat) : Int) = v2 at *
  have hl3 : ((l.set 0 (x0 &&& 248)).set 31 ((x1 &&& 127) ||| 64)).length = 32 := by simp [HLL.out]
  have hconv := fun (cap : Nat) => oconv_string _ N 0 32 cap _ hl3 (fun j hj => by rw [Nat.zero_add]; exact l3.cell (by rw [hl3]; exact hj))
  go_wp2_with fail
  refine bodyPost_ret (v := .tuple #[.string ⟨((l.set 0 (x0 &&& 248)).set 31 ((x1 &&& 127) ||| 64)).toArray⟩, .int .i64 0]) (by simp [results, Tryd.results24, go_sem]) rfl ?_
  exact ⟨by rw [HCL.out], by rw [hNN]; exact be⟩

set_option maxRecDepth 100000 in
theorem Clamp_no (s : ByteArray) (W : World) (h32 : ¬ s.size = 32) :
    Calls Tryd.prog 24 #[.string s] W fun e w' => e = .returned (.tuple #[.string ⟨#[]⟩, .int .i64 2]) ∧ Below W.heap.size W w' := by
  have hn : ((s.size : Int) != 32) = true := by rw [bne_iff_ne]; omega
  clear h32
  go_enter Tryd.func24, Tryd.ntmps24
  go_wp2_with fail
  exact bodyPost_ret (v := .tuple #[.string ⟨#[]⟩, .int .i64 2]) (by simp [results, Tryd.results24, go_sem]) rfl ⟨rfl, Below.refl _ _⟩

end Go.Proofs.YtceljjnohjnepaaDoor

namespace Go.Proofs.YtceljjnohjnepaaDoor.NT

set_option maxRecDepth 100000 in
theorem p11 : Prime 11 := prime_small (by decide +kernel)
set_option maxRecDepth 100000 in
theorem p34123 : Prime 34123 := prime_of (g := 2) (fs := [2, 3, 11, 11, 47]) (by decide +kernel) (by
  intro q hq
  simp only [List.mem_cons, List.not_mem_nil, or_false] at hq
  rcases hq with rfl | rfl | rfl | rfl | rfl
  · exact p2
  · exact p3
  · exact p11
  · exact p11
  · exact p47)
set_option maxRecDepth 100000 in
theorem p409477 : Prime 409477 := prime_of (g := 2) (fs := [2, 2, 3, 34123]) (by decide +kernel) (by
  intro q hq
  simp only [List.mem_cons, List.not_mem_nil, or_false] at hq
  rcases hq with rfl | rfl | rfl | rfl
  · exact p2
  · exact p2
  · exact p3
  · exact p34123)
set_option maxRecDepth 100000 in
theorem p14741173 : Prime 14741173 := prime_of (g := 2) (fs := [2, 2, 3, 3, 409477]) (by decide +kernel) (by
  intro q hq
  simp only [List.mem_cons, List.not_mem_nil, or_false] at hq
  rcases hq with rfl | rfl | rfl | rfl | rfl
  · exact p2
  · exact p2
  · exact p3
  · exact p3
  · exact p409477)
set_option maxRecDepth 100000 in
theorem p58964693 : Prime 58964693 := prime_of (g := 2) (fs := [2, 2, 14741173]) (by decide +kernel) (by
  intro q hq
  simp only [List.mem_cons, List.not_mem_nil, or_false] at hq
  rcases hq with rfl | rfl | rfl
  · exact p2
  · exact p2
  · exact p14741173)
set_option maxRecDepth 100000 in
theorem p30703 : Prime 30703 := prime_of (g := 3) (fs := [2, 3, 7, 17, 43]) (by decide +kernel) (by
  intro q hq
  simp only [List.mem_cons, List.not_mem_nil, or_false] at hq
  rcases hq with rfl | rfl | rfl | rfl | rfl
  · exact p2
  · exact p3
  · exact p7
  · exact p17
  · exact p43)
set_option maxRecDepth 100000 in
theorem p79 : Prime 79 := prime_small (by decide +kernel)
set_option maxRecDepth 100000 in
theorem p41081 : Prime 41081 := prime_of (g := 3) (fs := [2, 2, 2, 5, 13, 79]) (by decide +kernel) (by
  intro q hq
  simp only [List.mem_cons, List.not_mem_nil, or_false] at hq
  rcases hq with rfl | rfl | rfl | rfl | rfl | rfl
  · exact p2
  · exact p2
  · exact p2
  · exact p5
  · exact p13
  · exact p79)
set_option maxRecDepth 100000 in
theorem p82163 : Prime 82163 := prime_of (g := 2) (fs := [2, 41081]) (by decide +kernel) (by
  intro q hq
  simp only [List.mem_cons, List.not_mem_nil, or_false] at hq
  rcases hq with rfl | rfl
  · exact p2
  · exact p41081)
set_option maxRecDepth 100000 in
theorem p67 : Prime 67 := prime_small (by decide +kernel)
set_option maxRecDepth 100000 in
theorem p22111 : Prime 22111 := prime_of (g := 6) (fs := [2, 3, 5, 11, 67]) (by decide +kernel) (by
  intro q hq
  simp only [List.mem_cons, List.not_mem_nil, or_false] at hq
  rcases hq with rfl | rfl | rfl | rfl | rfl
  · exact p2
  · exact p3
  · exact p5
  · exact p11
  · exact p67)
set_option maxRecDepth 100000 in
theorem p132667 : Prime 132667 := prime_of (g := 5) (fs := [2, 3, 22111]) (by decide +kernel) (by
  intro q hq
  simp only [List.mem_cons, List.not_mem_nil, or_false] at hq
  rcases hq with rfl | rfl | rfl
  · exact p2
  · exact p3
  · exact p22111)
set_option maxRecDepth 100000 in
theorem p17231 : Prime 17231 := prime_of (g := 13) (fs := [2, 5, 1723]) (by decide +kernel) (by
  intro q hq
  simp only [List.mem_cons, List.not_mem_nil, or_false] at hq
  rcases hq with rfl | rfl | rfl
  · exact p2
  · exact p5
  · exact p1723)
set_option maxRecDepth 100000 in
theorem p137849 : Prime 137849 := prime_of (g := 3) (fs := [2, 2, 2, 17231]) (by decide +kernel) (by
  intro q hq
  simp only [List.mem_cons, List.not_mem_nil, or_false] at hq
  rcases hq with rfl | rfl | rfl | rfl
  · exact p2
  · exact p2
  · exact p2
  · exact p17231)
set_option maxRecDepth 100000 in
theorem p3044861653679985063343 : Prime 3044861653679985063343 := prime_of (g := 5) (fs := [2, 3, 11, 30703, 82163, 132667, 137849]) (by decide +kernel) (by
  intro q hq
  simp only [List.mem_cons, List.not_mem_nil, or_false] at hq
  rcases hq with rfl | rfl | rfl | rfl | rfl | rfl | rfl
  · exact p2
  · exact p3
  · exact p11
  · exact p30703
  · exact p82163
  · exact p132667
  · exact p137849)
set_option maxRecDepth 100000 in
theorem p198211423230930754013084525763697 : Prime 198211423230930754013084525763697 := prime_of (g := 5) (fs := [2, 2, 2, 2, 3, 23, 58964693, 3044861653679985063343]) (by decide +kernel) (by
  intro q hq
  simp only [List.mem_cons, List.not_mem_nil, or_false] at hq
  rcases hq with rfl | rfl | rfl | rfl | rfl | rfl | rfl | rfl
  · exact p2
  · exact p2
  · exact p2
  · exact p2
  · exact p3
  · exact p23
  · exact p58964693
  · exact p3044861653679985063343)
set_option maxRecDepth 100000 in
theorem p269 : Prime 269 := prime_small (by decide +kernel)
set_option maxRecDepth 100000 in
theorem p73 : Prime 73 := prime_small (by decide +kernel)
set_option maxRecDepth 100000 in
theorem p307 : Prime 307 := prime_small (by decide +kernel)
set_option maxRecDepth 100000 in
theorem p5879 : Prime 5879 := prime_small (by decide +kernel)
set_option maxRecDepth 100000 in
theorem p292386187 : Prime 292386187 := prime_of (g := 2) (fs := [2, 3, 3, 3, 3, 307, 5879]) (by decide +kernel) (by
  intro q hq
  simp only [List.mem_cons, List.not_mem_nil, or_false] at hq
  rcases hq with rfl | rfl | rfl | rfl | rfl | rfl | rfl
  · exact p2
  · exact p3
  · exact p3
  · exact p3
  · exact p3
  · exact p307
  · exact p5879)
set_option maxRecDepth 100000 in
theorem p213441916511 : Prime 213441916511 := prime_of (g := 13) (fs := [2, 5, 73, 292386187]) (by decide +kernel) (by
  intro q hq
  simp only [List.mem_cons, List.not_mem_nil, or_false] at hq
  rcases hq with rfl | rfl | rfl | rfl
  · exact p2
  · exact p5
  · exact p73
  · exact p292386187)
set_option maxRecDepth 100000 in
theorem p1361 : Prime 1361 := prime_small (by decide +kernel)
set_option maxRecDepth 100000 in
theorem p2851 : Prime 2851 := prime_small (by decide +kernel)
set_option maxRecDepth 100000 in
theorem p3797 : Prime 3797 := prime_small (by decide +kernel)
set_option maxRecDepth 100000 in
theorem p531581 : Prime 531581 := prime_of (g := 2) (fs := [2, 2, 5, 7, 3797]) (by decide +kernel) (by
  intro q hq
  simp only [List.mem_cons, List.not_mem_nil, or_false] at hq
  rcases hq with rfl | rfl | rfl | rfl | rfl
  · exact p2
  · exact p2
  · exact p5
  · exact p7
  · exact p3797)
set_option maxRecDepth 100000 in
theorem p2551 : Prime 2551 := prime_small (by decide +kernel)
set_option maxRecDepth 100000 in
theorem p1224481 : Prime 1224481 := prime_of (g := 13) (fs := [2, 2, 2, 2, 2, 3, 5, 2551]) (by decide +kernel) (by
  intro q hq
  simp only [List.mem_cons, List.not_mem_nil, or_false] at hq
  rcases hq with rfl | rfl | rfl | rfl | rfl | rfl | rfl | rfl
  · exact p2
  · exact p2
  · exact p2
  · exact p2
  · exact p2
  · exact p3
  · exact p5
  · exact p2551)
set_option maxRecDepth 100000 in
theorem p1257559732178653 : Prime 1257559732178653 := prime_of (g := 2) (fs := [2, 2, 3, 7, 23, 531581, 1224481]) (by decide +kernel) (by
  intro q hq
  simp only [List.mem_cons, List.not_mem_nil, or_false] at hq
  rcases hq with rfl | rfl | rfl | rfl | rfl | rfl | rfl
  · exact p2
  · exact p2
  · exact p3
  · exact p7
  · exact p23
  · exact p531581
  · exact p1224481)
set_option maxRecDepth 100000 in
theorem p4434155615661930479 : Prime 4434155615661930479 := prime_of (g := 17) (fs := [2, 41, 43, 1257559732178653]) (by decide +kernel) (by
  intro q hq
  simp only [List.mem_cons, List.not_mem_nil, or_false] at hq
  rcases hq with rfl | rfl | rfl | rfl
  · exact p2
  · exact p41
  · exact p43
  · exact p1257559732178653)
set_option maxRecDepth 100000 in
theorem p172054593956031949258510691 : Prime 172054593956031949258510691 := prime_of (g := 2) (fs := [2, 5, 1361, 2851, 4434155615661930479]) (by decide +kernel) (by
  intro q hq
  simp only [List.mem_cons, List.not_mem_nil, or_false] at hq
  rcases hq with rfl | rfl | rfl | rfl | rfl
  · exact p2
  · exact p5
  · exact p1361
  · exact p2851
  · exact p4434155615661930479)
set_option maxRecDepth 100000 in
theorem p19757330305831588566944191468367130476339 : Prime 19757330305831588566944191468367130476339 := prime_of (g := 2) (fs := [2, 269, 213441916511, 172054593956031949258510691]) (by decide +kernel) (by
  intro q hq
  simp only [List.mem_cons, List.not_mem_nil, or_false] at hq
  rcases hq with rfl | rfl | rfl | rfl
  · exact p2
  · exact p269
  · exact p213441916511
  · exact p172054593956031949258510691)
set_option maxRecDepth 100000 in
theorem p276602624281642239937218680557139826668747 : Prime 276602624281642239937218680557139826668747 := prime_of (g := 2) (fs := [2, 7, 19757330305831588566944191468367130476339]) (by decide +kernel) (by
  intro q hq
  simp only [List.mem_cons, List.not_mem_nil, or_false] at hq
  rcases hq with rfl | rfl | rfl
  · exact p2
  · exact p7
  · exact p19757330305831588566944191468367130476339)
set_option maxRecDepth 100000 in
theorem p7237005577332262213973186563042994240857116359379907606001950938285454250989 : Prime 7237005577332262213973186563042994240857116359379907606001950938285454250989 := prime_of (g := 2) (fs := [2, 2, 3, 11, 198211423230930754013084525763697, 276602624281642239937218680557139826668747]) (by decide +kernel) (by
  intro q hq
  simp only [List.mem_cons, List.not_mem_nil, or_false] at hq
  rcases hq with rfl | rfl | rfl | rfl | rfl | rfl
  · exact p2
  · exact p2
  · exact p3
  · exact p11
  · exact p198211423230930754013084525763697
  · exact p276602624281642239937218680557139826668747)
def ordP : Nat := 7237005577332262213973186563042994240857116359379907606001950938285454250989
set_option maxRecDepth 100000 in
theorem ord_prime : Prime ordP := p7237005577332262213973186563042994240857116359379907606001950938285454250989

end Go.Proofs.YtceljjnohjnepaaDoor.NT

namespace Go.Proofs.YtceljjnohjnepaaDoor
open EG DG NT

/-- What a clamped secret is. -/
def ck (sec : ByteArray) : Nat := bytesNat (clampL sec.data.toList)
set_option maxRecDepth 100000 in
theorem mod8 (x : Nat) : x &&& 248 = x % 256 / 8 * 8 := by
  have : ∀ x : Nat, x < 256 → x &&& 248 = x / 8 * 8 := by decide
  have h1 : x &&& 248 = (x % 256) &&& 248 := by
    refine Nat.eq_of_testBit_eq fun i => ?_
    rw [Nat.testBit_and, Nat.testBit_and, show 256 = 2 ^ 8 from rfl, Nat.testBit_mod_two_pow]
    by_cases hi : i < 8
    · simp [hi]
    · have h2 : Nat.testBit 248 i = false := Nat.testBit_lt_two_pow (Nat.lt_of_lt_of_le (by decide : 248 < 2 ^ 8) (Nat.pow_le_pow_right (by decide) (by omega)))
      simp [h2]
  rw [h1]
  exact this _ (Nat.mod_lt _ (by decide))
set_option maxRecDepth 100000 in
theorem bytesNat_cons (x : UInt8) (l : List UInt8) : bytesNat (x :: l) = x.toNat + 256 * bytesNat l := by
  unfold bytesNat
  rw [List.map_cons]
  rfl
set_option maxRecDepth 100000 in
theorem ck_facts {sec : ByteArray} (h : sec.size = 32) : ck sec < 2 ^ 255 ∧ 2 ^ 254 ≤ ck sec ∧ 8 ∣ ck sec := by
  have hl : sec.data.toList.length = 32 := by simpa using h
  unfold ck clampL
  generalize sec.data.toList = l at *
  have h1 : ((l.set 0 (l.getD 0 0 &&& 248)).set 31 ((l.getD 31 0 &&& 127) ||| 64)).length = 32 := by simp [hl]
  have h2 := split_nat _ h1
  have h3 := low_lt ((l.set 0 (l.getD 0 0 &&& 248)).set 31 ((l.getD 31 0 &&& 127) ||| 64))
  have hg : ((l.set 0 (l.getD 0 0 &&& 248)).set 31 ((l.getD 31 0 &&& 127) ||| 64))[31]'(by omega) = (l.getD 31 0 &&& 127) ||| 64 := by
    rw [List.getElem_set_self]
  rw [hg] at h2
  have hor : ∀ n : Nat, n < 256 → ((n &&& 127) ||| 64) < 128 ∧ 64 ≤ ((n &&& 127) ||| 64) := by decide
  have h4 := hor (l.getD 31 0).toNat (UInt8.toNat_lt _)
  have h5 : ((l.getD 31 0 &&& 127) ||| 64).toNat = ((l.getD 31 0).toNat &&& 127) ||| 64 := by rw [UInt8.toNat_or, UInt8.toNat_and]; rfl
  rw [h5] at h2
  refine ⟨?_, ?_, ?_⟩
  · rw [h2]
    generalize bytesNat (List.take 31 _) = lo at *
    generalize ((l.getD 31 0).toNat &&& 127) ||| 64 = x at *
    clear h2 h5 hor
    rw [show (2 : Nat) ^ 255 = 128 * t248 by decide]
    unfold t248 at *
    omega
  · rw [h2]
    generalize bytesNat (List.take 31 _) = lo at *
    generalize ((l.getD 31 0).toNat &&& 127) ||| 64 = x at *
    clear h2 h5 hor
    rw [show (2 : Nat) ^ 254 = 64 * t248 by decide]
    unfold t248 at *
    omega
  · match l, hl with
    | a :: r, hr =>
      rw [List.getD_cons_zero, List.set_cons_zero, show (31 : Nat) = 30 + 1 from rfl, List.set_cons_succ, bytesNat_cons]
      refine Nat.dvd_add ?_ (Nat.dvd_trans (by decide : 8 ∣ 256) (Nat.dvd_mul_right _ _))
      have : (a &&& 248).toNat = a.toNat % 256 / 8 * 8 := by rw [UInt8.toNat_and, ← mod8]; rfl
      rw [this]
      exact Nat.dvd_mul_left _ _
set_option maxRecDepth 100000 in
theorem oL_prime : Prime oL := ord_prime
set_option maxRecDepth 100000 in
theorem ck_cop {sec : ByteArray} (h : sec.size = 32) : ¬ oL ∣ ck sec := by
  obtain ⟨h1, h2, h3⟩ := ck_facts h
  generalize ck sec = k at *
  intro hd
  have hc : Nat.Coprime 8 oL := by decide +kernel
  have h4 : 8 * oL ∣ k := Nat.Coprime.mul_dvd_of_dvd_of_dvd hc h3 hd
  obtain ⟨m, hm⟩ := h4
  have h6 : 2 ^ 255 < 8 * oL := by decide +kernel
  have h7 : (2 : Nat) ^ 254 ≠ 0 := by decide +kernel
  rcases Nat.eq_zero_or_pos m with h0 | h0
  · subst h0; omega
  · have : 8 * oL ≤ 8 * oL * m := Nat.le_mul_of_pos_right _ h0
    omega
set_option maxRecDepth 100000 in
/-- A multiple of the base point that is the zero point, is one by the order. -/
theorem mul_zero_dvd {n : Nat} (h : Pt.mul n bP = Pt.zero) : oL ∣ n := by
  apply Decidable.byContradiction
  intro hn
  have hg : Nat.gcd oL n = 1 := oL_prime.coprime hn
  have key : ∀ a b : Nat, Pt.mul a bP = Pt.zero → Pt.mul b bP = Pt.zero → Pt.mul (Nat.gcd a b) bP = Pt.zero := by
    intro a b
    induction a, b using Nat.gcd.induction with
    | H0 b => intro _ h2; rw [Nat.gcd_zero_left]; exact h2
    | H1 a b ha ih =>
      intro h1 h2
      rw [Nat.gcd_rec]
      refine ih ?_ h1
      rw [Pt.mul_mod a bP h1]
      exact h2
  have h1 := key oL n base_order h
  rw [hg, Pt.mul_one] at h1
  have := congrArg (fun q : Pt cv => q.x.val) h1
  revert this
  decide +kernel

end Go.Proofs.YtceljjnohjnepaaDoor

namespace Go.Proofs.YtceljjnohjnepaaDoor
open EG

def rm (a b : Nat) : Nat := a * b % pP
def ra (a b : Nat) : Nat := (a + b) % pP
def rs (a b : Nat) : Nat := (a + (pP - b)) % pP
set_option maxRecDepth 100000 in
theorem rm_lt (a b : Nat) : rm a b < pP := Nat.mod_lt _ (by decide)
set_option maxRecDepth 100000 in
theorem ra_lt (a b : Nat) : ra a b < pP := Nat.mod_lt _ (by decide)
set_option maxRecDepth 100000 in
theorem rs_lt (a b : Nat) : rs a b < pP := Nat.mod_lt _ (by decide)
set_option maxRecDepth 100000 in
theorem fprm (a b : Nat) : fp (rm a b) = fp a * fp b := by rw [← fp_mul]; exact fp_mod _
set_option maxRecDepth 100000 in
theorem fpra (a b : Nat) : fp (ra a b) = fp a + fp b := by rw [← fp_add]; exact fp_mod _
set_option maxRecDepth 100000 in
theorem fprs {a b : Nat} (hb : b < pP) : fp (rs a b) = fp a - fp b := by
  have h : fp (rs a b) + fp b = fp a := by
    unfold rs
    rw [show pP = NT.P from rfl, fp_mod, ← fp_add, fp_eq, Nat.add_assoc, Nat.sub_add_cancel (show b ≤ NT.P from Nat.le_of_lt hb), Nat.add_mod_right]
  rw [← h]
  grind
set_option maxRecDepth 100000 in
theorem fpri {a : Nat} (h : a < pP) : fp (rInv a) = finv (fp a) := by
  have e : invN a % pP = rInv a := by rw [inv_mod, Nat.mod_eq_of_lt h]
  rw [← fpi a, ← e]
  exact (fp_mod _)
set_option maxRecDepth 100000 in
theorem fp_lt {a : Nat} (h : a < pP) : (fp a).val = a := Nat.mod_eq_of_lt h
set_option maxRecDepth 100000 in
theorem dN_pP : dN < pP := by decide +kernel

/-- The three numbers of a point. -/
structure R3 where
  x : Nat
  y : Nat
  z : Nat
structure R3.bd (s : R3) : Prop where
  x : s.x < pP
  y : s.y < pP
  z : s.z < pP
structure R3.ok (s : R3) (p : Pt cv) : Prop where
  bd : s.bd
  prj : Prj (fp s.x) (fp s.y) (fp s.z) p
namespace R3
def zero : R3 := ⟨0, 1, 1⟩
def aA (s u : R3) : Nat := rm s.z u.z
def aB (s u : R3) : Nat := rm (aA s u) (aA s u)
def aC (s u : R3) : Nat := rm s.x u.x
def aD (s u : R3) : Nat := rm s.y u.y
def aE (s u : R3) : Nat := rm (rm dN (aC s u)) (aD s u)
def aF (s u : R3) : Nat := rs (aB s u) (aE s u)
def aG (s u : R3) : Nat := ra (aB s u) (aE s u)
def aH (s u : R3) : Nat := rs (rs (rm (ra s.x s.y) (ra u.x u.y)) (aC s u)) (aD s u)
def add (s u : R3) : R3 := ⟨rm (rm (aA s u) (aF s u)) (aH s u), rm (rm (aA s u) (aG s u)) (ra (aD s u) (aC s u)), rm (aF s u) (aG s u)⟩
def same (s u : R3) : Bool := decide (rm s.x u.z = rm u.x s.z) && decide (rm s.y u.z = rm u.y s.z)
def on (s : R3) : Bool := decide (rm (rs (rm s.y s.y) (rm s.x s.x)) (rm s.z s.z) = ra (rm (rm s.z s.z) (rm s.z s.z)) (rm (rm dN (rm s.x s.x)) (rm s.y s.y)))
def bytes (s : R3) : ByteArray := encB (rm s.y (rInv s.z)) (decide (rm s.x (rInv s.z) % 2 = 1))
def timesN (s : R3) (n : Nat) : Nat → R3
  | 0 => zero
  | k + 1 => if bitN n (255 - k) = 1 then ((timesN s n k).add (timesN s n k)).add s else (timesN s n k).add (timesN s n k)
def times (s : R3) (n : Nat) : R3 := timesN s n 256
variable {s u : R3} {p q : Pt cv}
set_option maxRecDepth 100000 in
theorem zero_bd : zero.bd := ⟨by decide, by decide, by decide⟩
set_option maxRecDepth 100000 in
theorem add_bd (s u : R3) : (s.add u).bd := ⟨rm_lt _ _, rm_lt _ _, rm_lt _ _⟩
set_option maxRecDepth 100000 in
theorem zero_ok : zero.ok Pt.zero := ⟨zero_bd, Prj.zero⟩
set_option maxRecDepth 100000 in
theorem add_ok (h : s.ok p) (k : u.ok q) : (s.add u).ok (p.add q) := by
  refine ⟨add_bd s u, ?_⟩
  have := Prj.add h.prj k.prj (a := fp (aA s u)) (c := fp (aC s u)) (d := fp (aD s u)) (e := fp (aE s u)) (fprm _ _) (fprm _ _) (fprm _ _) (by unfold aE; rw [fprm, fprm]; rfl)
  show Prj (fp (rm _ _)) (fp (rm _ _)) (fp (rm _ _)) _
  have eB : fp (aB s u) = fp (aA s u) * fp (aA s u) := fprm _ _
  rw [fprm, fprm, fprm, fprm, fprm, fpra]
  unfold aF aG aH
  rw [fprs (show aE s u < pP from rm_lt _ _), fpra, fprs (show aD s u < pP from rm_lt _ _), fprs (show aC s u < pP from rm_lt _ _), fprm, fpra, fpra, eB]
  exact this
set_option maxRecDepth 100000 in
theorem timesN_bd (_h : s.bd) (n : Nat) : ∀ k, (timesN s n k).bd
  | 0 => zero_bd
  | k + 1 => by unfold timesN; split <;> exact add_bd _ _
set_option maxRecDepth 100000 in
theorem times_bd (h : s.bd) (n : Nat) : (times s n).bd := timesN_bd h n 256
set_option maxRecDepth 100000 in
theorem timesN_ok (h : s.ok p) {n : Nat} (hn : n < 2 ^ 256) : ∀ k, k ≤ 256 → (timesN s n k).ok (Pt.mul (n / 2 ^ (256 - k)) p)
  | 0, _ => by
    rw [Nat.div_eq_of_lt hn]
    exact zero_ok
  | k + 1, hk => by
    have ih := timesN_ok h hn k (by omega)
    have h2 := add_ok ih ih
    rw [show 256 - (k + 1) = 255 - k by omega, P4.bit_split n (by omega), P4.mul_bit]
    unfold timesN
    have hb := bitN_lt n (255 - k)
    split
    · rename_i h1
      rw [h1, show Pt.mul 1 p = p by rw [show (1 : Nat) = 0 + 1 from rfl, Pt.mul_succ]; exact Pt.zero_add p]
      exact add_ok h2 h
    · rename_i h1
      rw [show bitN n (255 - k) = 0 by omega, show Pt.mul 0 p = Pt.zero from rfl, Pt.add_zero]
      exact h2
set_option maxRecDepth 100000 in
theorem times_ok (h : s.ok p) {n : Nat} (hn : n < 2 ^ 256) : (times s n).ok (Pt.mul n p) := by
  have := timesN_ok h hn 256 (by omega)
  rw [Nat.sub_self, Nat.pow_zero, Nat.div_one] at this
  exact this
set_option maxRecDepth 100000 in
theorem fp_inj {a b : Nat} (ha : a < pP) (hb : b < pP) : fp a = fp b ↔ a = b := by
  rw [fp_same, Nat.mod_eq_of_lt ha, Nat.mod_eq_of_lt hb]
set_option maxRecDepth 100000 in
theorem same_iff (h : s.ok p) (k : u.ok q) : s.same u = true ↔ p = q := by
  have := Prj.same h.prj k.prj
  unfold same
  rw [← fprm, ← fprm, ← fprm, ← fprm, fp_inj (rm_lt _ _) (rm_lt _ _), fp_inj (rm_lt _ _) (rm_lt _ _)] at this
  rw [← Bool.decide_and, decide_eq_true_eq]
  exact this
set_option maxRecDepth 100000 in
theorem ok_bytes (h : s.ok p) : s.bytes = ptB p := by
  have := Prj.coords h.prj
  rw [show cv.inv (fp s.z) = fp (rInv s.z) from (fpri h.bd.z).symm, ← fprm, ← fprm] at this
  unfold bytes ptB
  rw [← this.1, ← this.2, fp_lt (rm_lt _ _), fp_lt (rm_lt _ _)]
set_option maxRecDepth 100000 in
theorem ok_on (h : s.ok p) : s.on = true := by
  unfold on
  rw [decide_eq_true_eq, ← fp_inj (rm_lt _ _) (ra_lt _ _), fprm, fprs (rm_lt _ _), fprm, fprm, fprm, fpra, fprm, fprm, fprm, fprm, fprm, fprm]
  have on := p.on
  unfold onC at on
  rw [cvD] at on
  rw [h.prj.hx, h.prj.hy]
  generalize fp s.z = z at *
  generalize fp dN = d at *
  have e : (p.y * z * (p.y * z) - p.x * z * (p.x * z)) * (z * z) = (p.y * p.y - p.x * p.x) * (z * z * (z * z)) := by clear on; grind
  rw [e, on]
  clear e on
  grind
end R3

end Go.Proofs.YtceljjnohjnepaaDoor

namespace Go.Proofs.YtceljjnohjnepaaDoor
open EG DG NT

set_option maxRecDepth 100000 in
/-- A square has roots. -/
theorem is_sq {a x : Nat} (h : a % pP = x * x % pP) : rIs (a % pP) = true := by
  rw [h]
  by_cases h0 : x % pP = 0
  · rw [Nat.mul_mod, h0, Nat.zero_mul, Nat.zero_mod]; exact is0
  · obtain ⟨j, hj⟩ := g_log (Nat.pos_of_ne_zero h0) (Nat.mod_lt x (by decide))
    rw [Nat.mul_mod, ← hj, ← g_add, is_g]
    exact decide_eq_true (by omega)
set_option maxRecDepth 100000 in
theorem mod0_sq {x : Nat} (h : x < pP) (h0 : x * x % pP = 0) : x = 0 := by
  have h1 : fp x * fp x = 0 := by rw [← fp_mul]; apply Fin.ext; exact h0
  have h2 : fp x = 0 := by rcases cv.mul_zero h1 with h | h <;> exact h
  have h3 := congrArg Fin.val h2
  rw [fp_lt h] at h3
  exact h3
set_option maxRecDepth 100000 in
/-- A point's bytes are read as it. -/
theorem u_pt (p : Pt cv) : dU p.y.val % pP = p.x.val * p.x.val % pP := by
  rw [← fp_same, fpU (Nat.lt_trans p.y.isLt (by decide)), fp_mul, fp_of, fp_of]
  have h2 := cv.hinv _ (Crv.den_ne cv p.y)
  have on := p.on
  unfold onC at on
  generalize p.x = x at *
  generalize p.y = y at *
  generalize cv.D = d at *
  generalize cv.inv (y * y * d + 1) = v at *
  have e : y * y - 1 = x * x * (y * y * d + 1) := by clear h2; grind
  rw [e]
  have e2 : x * x * (y * y * d + 1) * v = x * x * ((y * y * d + 1) * v) := by clear h2 e on; grind
  rw [e2, h2]
  clear h2 e e2 on
  grind
set_option maxRecDepth 100000 in
theorem dY_pt (p : Pt cv) : dY (ptB p) = p.y.val := by
  have hy : p.y.val < t255 := Nat.lt_trans p.y.isLt pP_255
  unfold dY ptB
  rw [enc_nat hy]
  generalize decide (p.x.val % 2 = 1) = od
  generalize p.y.val = n at *
  unfold encN t255 at *
  cases od <;> simp <;> omega
set_option maxRecDepth 100000 in
theorem dOd_pt (p : Pt cv) : dOd (ptB p) = decide (p.x.val % 2 = 1) := by
  have hy : p.y.val < t255 := Nat.lt_trans p.y.isLt pP_255
  unfold dOd ptB
  rw [enc_nat hy]
  generalize decide (p.x.val % 2 = 1) = od
  generalize p.y.val = n at *
  unfold encN t255 at *
  cases od <;> simp <;> omega
set_option maxRecDepth 100000 in
theorem ptB_size (p : Pt cv) : (ptB p).size = 32 := enc_size _ _
set_option maxRecDepth 100000 in
theorem dOk_pt (p : Pt cv) : dOk (ptB p) = true := by
  unfold dOk
  rw [dY_pt, dOd_pt, decide_eq_true (ptB_size p), decide_eq_true (show p.y.val < pP from p.y.isLt), Bool.true_and, Bool.and_true]
  have hu := u_pt p
  have hl : dU p.y.val < p2 := dU_lt (Nat.lt_trans p.y.isLt (by decide))
  by_cases h0 : dU p.y.val % pP = 0
  · rw [ok_nought hl _ h0]
    rw [h0] at hu
    have hx : p.x.val = 0 := mod0_sq p.x.isLt hu.symm
    rw [hx]; rfl
  · rw [ok_is hl _ h0]
    exact is_sq hu
set_option maxRecDepth 100000 in
theorem dPt_pt (p : Pt cv) : dPt (ptB p) (dOk_pt p) = p := ptB_inj (dPt_bytes (dOk_pt p))
set_option maxRecDepth 100000 in
theorem dPt_eq {s : ByteArray} (h : dOk s = true) {p : Pt cv} (hs : s = ptB p) : dPt s h = p := by
  subst hs; exact dPt_pt p

set_option maxRecDepth 100000 in
theorem ordL_oL : ordL = oL := rfl
set_option maxRecDepth 100000 in
theorem mul_ord (n : Nat) : Pt.mul (n % ordL) bP = Pt.mul n bP := Pt.mul_mod oL bP base_order n
set_option maxRecDepth 100000 in
theorem mul_inj {m n : Nat} (h : Pt.mul m bP = Pt.mul n bP) : m % ordL = n % ordL := by
  have key : ∀ a d : Nat, Pt.mul a bP = Pt.mul (a + d) bP → a % ordL = (a + d) % ordL := by
    intro a d h
    rw [Pt.mul_add] at h
    have h2 : (Pt.mul a bP).add Pt.zero = (Pt.mul a bP).add (Pt.mul d bP) := by rw [Pt.add_zero]; exact h
    obtain ⟨c, hc⟩ := mul_zero_dvd (Pt.add_left h2).symm
    rw [hc, ordL_oL, Nat.add_mul_mod_self_left]
  rcases Nat.le_total m n with hh | hh
  · obtain ⟨d, rfl⟩ : ∃ d, n = m + d := ⟨n - m, by omega⟩
    exact key m d h
  · obtain ⟨d, rfl⟩ : ∃ d, m = n + d := ⟨m - n, by omega⟩
    exact (key n d h.symm).symm

/-- A digest, as a number modulo the order. -/
def redN (l : List UInt8) : Nat := bytesNat (SH.sha l) % ordL
set_option maxRecDepth 100000 in
theorem redN_lt (l : List UInt8) : redN l < ordL := Nat.mod_lt _ (by decide)
/-- What a secret holds: its number, its prefix. -/
def sgH (sec : ByteArray) : ByteArray := ⟨(SH.sha sec.data.toList).toArray⟩
set_option maxRecDepth 100000 in
theorem sgH_size (sec : ByteArray) : (sgH sec).size = 64 := by
  show (SH.sha sec.data.toList).toArray.size = 64
  simp [SH.sha_length]
def sgL (sec : ByteArray) : ByteArray := (sgH sec).extract 0 32
def sgPre (sec : ByteArray) : ByteArray := (sgH sec).extract 32 64
set_option maxRecDepth 100000 in
theorem sgL_size (sec : ByteArray) : (sgL sec).size = 32 := by unfold sgL; rw [ByteArray.size_extract, sgH_size]; rfl
set_option maxRecDepth 100000 in
theorem sgPre_size (sec : ByteArray) : (sgPre sec).size = 32 := by unfold sgPre; rw [ByteArray.size_extract, sgH_size]; rfl
def sgA (sec : ByteArray) : Nat := ck (sgL sec) % ordL
set_option maxRecDepth 100000 in
theorem sgA_lt (sec : ByteArray) : sgA sec < ordL := Nat.mod_lt _ (by decide)
set_option maxRecDepth 100000 in
theorem sgA_cop (sec : ByteArray) : ¬ oL ∣ sgA sec := fun h => by
  refine ck_cop (sgL_size sec) ?_
  unfold sgA at h
  exact (Nat.dvd_mod_iff (Nat.dvd_refl oL)).1 h
def pubB (sec : ByteArray) : ByteArray := ptB (Pt.mul (sgA sec) bP)
def sgR (sec s : ByteArray) : Nat := redN ((sgPre sec).data.toList ++ s.data.toList)
def sgQ (sec s : ByteArray) : ByteArray := ptB (Pt.mul (sgR sec s) bP)
def sgK (sec s : ByteArray) : Nat := redN ((sgQ sec s).data.toList ++ ((pubB sec).data.toList ++ s.data.toList))
def sgS (sec s : ByteArray) : Nat := (sgK sec s * sgA sec + sgR sec s) % ordL
set_option maxRecDepth 100000 in
theorem sgS_lt (sec s : ByteArray) : sgS sec s < ordL := Nat.mod_lt _ (by decide)
def n32B (n : Nat) : ByteArray := ⟨(natBytes n 32).toArray⟩
set_option maxRecDepth 100000 in
theorem n32B_size (n : Nat) : (n32B n).size = 32 := by show (natBytes n 32).toArray.size = 32; simp [natBytes_length]
def sigB (sec s : ByteArray) : ByteArray := sgQ sec s ++ n32B (sgS sec s)
set_option maxRecDepth 100000 in
theorem pubB_size (sec : ByteArray) : (pubB sec).size = 32 := ptB_size _
set_option maxRecDepth 100000 in
theorem sgQ_size (sec s : ByteArray) : (sgQ sec s).size = 32 := ptB_size _
set_option maxRecDepth 100000 in
theorem sigB_size (sec s : ByteArray) : (sigB sec s).size = 64 := by unfold sigB; rw [ByteArray.size_append, sgQ_size, n32B_size]
set_option maxRecDepth 100000 in
theorem ext_left {a b : ByteArray} {n : Nat} (h : a.size = n) : (a ++ b).extract 0 n = a := by
  apply ba_ext
  rw [ByteArray.data_extract, ByteArray.data_append, Array.toList_extract, Array.toList_append, List.extract_eq_take_drop]
  have hl : a.data.toList.length = n := by simpa using h
  simp [← hl]
set_option maxRecDepth 100000 in
theorem ext_right {a b : ByteArray} {n m : Nat} (h : a.size = n) (hm : n + b.size = m) : (a ++ b).extract n m = b := by
  apply ba_ext
  rw [ByteArray.data_extract, ByteArray.data_append, Array.toList_extract, Array.toList_append, List.extract_eq_take_drop]
  have hl : a.data.toList.length = n := by simpa using h
  have hb : b.data.toList.length = b.size := by simp
  have e : m - n = b.data.toList.length := by omega
  have hd : List.drop n a.data.toList = [] := List.drop_of_length_le (by omega)
  rw [List.drop_append, hd, List.nil_append, hl, Nat.sub_self, List.drop_zero, e, List.take_length]
/-- Which signatures are verified. -/
def vrNum (pub s sig : ByteArray) : Nat := redN ((sig.extract 0 32).data.toList ++ (pub.data.toList ++ s.data.toList))
def vrOk (pub s sig : ByteArray) : Prop :=
  sig.size = 64 ∧ ocanB (sig.extract 32 64) = true ∧ ∃ (h : dOk pub = true) (h2 : dOk (sig.extract 0 32) = true), Pt.mul 8 (dPt pub h) ≠ Pt.zero ∧
    Pt.mul (bytesNat (sig.extract 32 64).data.toList % ordL) bP = (dPt (sig.extract 0 32) h2).add (Pt.mul (vrNum pub s sig) (dPt pub h))
open Classical in
noncomputable def vrB (pub s sig : ByteArray) : Bool := decide (vrOk pub s sig)
open Classical in
set_option maxRecDepth 100000 in
theorem vrB_true {pub s sig : ByteArray} (h : vrOk pub s sig) : vrB pub s sig = true := by unfold vrB; exact decide_eq_true h
open Classical in
set_option maxRecDepth 100000 in
theorem vrB_false {pub s sig : ByteArray} (h : ¬ vrOk pub s sig) : vrB pub s sig = false := by unfold vrB; exact decide_eq_false h
set_option maxRecDepth 100000 in
theorem ocan_n {n : Nat} (h : n < ordL) : ocanB (n32B n) = true := by
  unfold ocanB
  refine decide_eq_true ⟨n32B_size n, ?_⟩
  show bytesNat (natBytes n 32) < ordL
  rw [bytesNat_natBytes, Nat.mod_eq_of_lt (Nat.lt_trans h (by decide))]
  exact h
set_option maxRecDepth 100000 in
theorem nat_n {n : Nat} (h : n < 256 ^ 32) : bytesNat (n32B n).data.toList = n := by
  show bytesNat (natBytes n 32) = n
  rw [bytesNat_natBytes, Nat.mod_eq_of_lt h]
set_option maxRecDepth 100000 in
theorem ordL_256' : ordL < 256 ^ 32 := by decide
set_option maxRecDepth 100000 in
theorem pub8_ne (sec : ByteArray) : Pt.mul 8 (Pt.mul (sgA sec) bP) ≠ Pt.zero := fun h => by
  rw [Pt.mul_mul] at h
  rcases oL_prime.dvd_mul (mul_zero_dvd h) with h1 | h1
  · revert h1; decide +kernel
  · exact sgA_cop sec h1
set_option maxRecDepth 100000 in
/-- What is signed is verified. -/
theorem sign_eq (sec s : ByteArray) (k : Nat) : Pt.mul ((k * sgA sec + sgR sec s) % ordL) bP = (Pt.mul (sgR sec s) bP).add (Pt.mul k (Pt.mul (sgA sec) bP)) := by
  rw [mul_ord, Pt.mul_add, Pt.add_comm, Pt.mul_mul]
set_option maxRecDepth 100000 in
theorem sig_l (sec s : ByteArray) : (sigB sec s).extract 0 32 = sgQ sec s := ext_left (sgQ_size sec s)
set_option maxRecDepth 100000 in
theorem sig_r (sec s : ByteArray) : (sigB sec s).extract 32 64 = n32B (sgS sec s) := ext_right (sgQ_size sec s) (by rw [n32B_size])
set_option maxRecDepth 100000 in
theorem vr_sign (sec s t : ByteArray) : vrOk (pubB sec) t (sigB sec s) ↔ Pt.mul (sgK sec s) (Pt.mul (sgA sec) bP) = Pt.mul (redN ((sgQ sec s).data.toList ++ ((pubB sec).data.toList ++ t.data.toList))) (Pt.mul (sgA sec) bP) := by
  unfold vrOk vrNum
  rw [sig_l, sig_r]
  have e1 : ∀ h, dPt (pubB sec) h = Pt.mul (sgA sec) bP := fun h => dPt_eq h rfl
  have e2 : ∀ h, dPt (sgQ sec s) h = Pt.mul (sgR sec s) bP := fun h => dPt_eq h rfl
  have e3 : bytesNat (n32B (sgS sec s)).data.toList % ordL = sgS sec s := by
    rw [nat_n (Nat.lt_trans (sgS_lt sec s) ordL_256'), Nat.mod_eq_of_lt (sgS_lt sec s)]
  have e4 : Pt.mul (sgS sec s) bP = (Pt.mul (sgR sec s) bP).add (Pt.mul (sgK sec s) (Pt.mul (sgA sec) bP)) := sign_eq sec s _
  constructor
  · rintro ⟨_, _, h, h2, _, h4⟩
    rw [e1, e2, e3, e4] at h4
    exact Pt.add_left h4
  · intro h
    have hp : dOk (pubB sec) = true := dOk_pt _
    have hq : dOk (sgQ sec s) = true := dOk_pt _
    refine ⟨sigB_size sec s, ocan_n (sgS_lt sec s), hp, hq, ?_, ?_⟩
    · rw [e1]; exact pub8_ne sec
    · rw [e1, e2, e3, e4, h]
set_option maxRecDepth 100000 in
theorem vr_self (sec s : ByteArray) : vrOk (pubB sec) s (sigB sec s) := (vr_sign sec s s).2 rfl
set_option maxRecDepth 100000 in
theorem vr_other {sec s t : ByteArray} (h : vrOk (pubB sec) t (sigB sec s)) : sgK sec s = redN ((sgQ sec s).data.toList ++ ((pubB sec).data.toList ++ t.data.toList)) := by
  have h1 := (vr_sign sec s t).1 h
  have hk : sgK sec s < ordL := redN_lt _
  have hk2 := redN_lt ((sgQ sec s).data.toList ++ ((pubB sec).data.toList ++ t.data.toList))
  generalize redN ((sgQ sec s).data.toList ++ ((pubB sec).data.toList ++ t.data.toList)) = k2 at *
  generalize sgK sec s = k at *
  rw [Pt.mul_mul, Pt.mul_mul] at h1
  have h2 := mul_inj h1
  have hc := sgA_cop sec
  generalize sgA sec = a at *
  have key : ∀ m d : Nat, m + d < ordL → m * a % ordL = (m + d) * a % ordL → d = 0 := by
    intro m d hd he
    have h3 : oL ∣ d * a := by
      have h4 : ((m + d) * a - m * a) % ordL = 0 := Nat.sub_mod_eq_zero_of_mod_eq he.symm
      rw [Nat.add_mul, Nat.add_sub_cancel_left] at h4
      exact Nat.dvd_of_mod_eq_zero h4
    rcases oL_prime.dvd_mul h3 with h5 | h5
    · have : d < oL := by rw [ordL_oL] at hd; omega
      exact Nat.eq_zero_of_dvd_of_lt h5 this
    · exact absurd h5 hc
  rcases Nat.le_total k k2 with hh | hh
  · obtain ⟨d, rfl⟩ : ∃ d, k2 = k + d := ⟨k2 - k, by omega⟩
    have := key k d hk2 h2
    omega
  · obtain ⟨d, rfl⟩ : ∃ d, k = k2 + d := ⟨k - k2, by omega⟩
    have := key k2 d hk h2.symm
    omega
/-- A key of few points. -/
def oneB : ByteArray := encB 1 false
set_option maxRecDepth 100000 in
theorem one_pt : oneB = ptB (Pt.zero : Pt cv) := by decide +kernel
set_option maxRecDepth 100000 in
theorem vr_one (s sig : ByteArray) : ¬ vrOk oneB s sig := by
  rintro ⟨_, _, h, _, h3, _⟩
  rw [dPt_eq h one_pt, Pt.mul_of_zero] at h3
  exact h3 rfl
set_option maxRecDepth 100000 in
/-- A number that is not below the order. -/
theorem vr_big {pub s sig : ByteArray} (h : ordL ≤ bytesNat (sig.extract 32 64).data.toList) : ¬ vrOk pub s sig := by
  rintro ⟨_, h2, _⟩
  unfold ocanB at h2
  have := (of_decide_eq_true h2).2
  omega
set_option maxRecDepth 100000 in
theorem vr_short {pub s sig : ByteArray} (h : sig.size ≠ 64) : ¬ vrOk pub s sig := fun hh => h hh.1

end Go.Proofs.YtceljjnohjnepaaDoor

namespace Go.Proofs.YtceljjnohjnepaaDoor
open Go Go.RowKit DG EG

/-- What a secret holds, in memory. -/
def sgr (a : Nat) (pre : ByteArray) : Array Value := quad a ++ #[.string pre]
set_option maxRecDepth 100000 in
@[go_sem] theorem sgr_size (a : Nat) (pre : ByteArray) : (sgr a pre).size = 5 := by unfold sgr; simp only [Array.size_append, quad_size]; rfl
set_option maxRecDepth 100000 in
@[go_sem] theorem sgr_one (a : Nat) (pre : ByteArray) : ones (sgr a pre) = true := by unfold sgr; rw [ones_append, quad_one]; rfl
set_option maxRecDepth 100000 in
@[go_sem] theorem sgr_a (a : Nat) (pre : ByteArray) : (sgr a pre).extract 0 4 = quad a := by
  have e : sgr a pre = #[] ++ quad a ++ #[.string pre] := by unfold sgr; rw [Array.empty_append]
  rw [e]; exact ext_at _ _ _ 0 4 rfl (quad_size a)
set_option maxRecDepth 100000 in
theorem sgr_pre (a : Nat) (pre : ByteArray) : (sgr a pre)[4]? = some (.string pre) := by
  unfold sgr
  rw [Array.getElem?_append_right (by rw [quad_size]; omega), quad_size]
  rfl
set_option maxRecDepth 100000 in
theorem sg_zero : (#[.int .u64 0, .int .u64 0, .int .u64 0, .int .u64 0, .string ⟨#[]⟩] : Array Value) = sgr 0 ⟨#[]⟩ := rfl
set_option maxRecDepth 100000 in
theorem info_Sg : (Tryd.prog.info? 39).map (·.size) = some 5 := by kernel_rfl
                                                                                                                           theorem exl_Sg {r : Operand → Value} {dst : Option Nat} {x : Operand} {t : TypeId} {pos : String} {af : Array Edge} {g : Option (Nat × Bool)} : execOp r ⟨dst, .load 39 x, t, pos, af, g⟩ = (do let v ← loadRow 39 (r x); pure (Next.value v)) := rfl
                                                                                                                           theorem exs_Sg {r : Operand → Value} {dst : Option Nat} {x y : Operand} {t : TypeId} {pos : String} {af : Array Edge} {g : Option (Nat × Bool)} : execOp r ⟨dst, .store 39 x y, t, pos, af, g⟩ = (do storeRow 39 (r x) (r y); pure Next.skip) := rfl
                                                                                                                           theorem ldr_Sg (b : Nat) (w : World) : (loadRow 39 (.pointer (some ⟨b, 0, none⟩))).run Tryd.prog w = match hget w b with | some (.cells c _ _) => if c.size = 5 then .ok (.agg c) w else stuckL Tryd.prog 39 b w | _ => stuckL Tryd.prog 39 b w := loadRow_run Tryd.underlying39 rfl info_Sg b w
                                                                                                                           theorem str_Sg (b : Nat) (c' : Array Value) (w : World) : (storeRow 39 (.pointer (some ⟨b, 0, none⟩)) (.agg c')).run Tryd.prog w = match hget w b with | some (.cells c T (0, 0)) => if c.size = 5 then (if c'.size = 5 then (if ones c' = true then .ok () (blk w b (.cells c' T (0, 0))) else stuckS Tryd.prog 39 b (.agg c') w) else stuckS Tryd.prog 39 b (.agg c') w) else stuckS Tryd.prog 39 b (.agg c') w | _ => stuckS Tryd.prog 39 b (.agg c') w := storeRow_run info_Sg b c' w
set_option maxRecDepth 100000 in
theorem ldm_Sc (b off : Nat) (w : World) : (loadRow 37 (.pointer (some ⟨b, off, none⟩))).run Tryd.prog w = match hget w b with | some (.cells c _ _) => if off + 4 ≤ c.size then .ok (.agg (c.extract off (off + 4))) w else stuckM Tryd.prog 37 b off w | _ => stuckM Tryd.prog 37 b off w := loadMid_run Tryd.underlying37 rfl info_Sc b off w
def buildRowS (t : TypeId) (ps : Array (Nat × Value)) : Sem Value := Instr.build t ps
set_option maxRecDepth 100000 in
theorem exb_Sc {r : Operand → Value} {dst : Option Nat} {ps : Array (Nat × Operand)} {t : TypeId} {pos : String} {af : Array Edge} {g : Option (Nat × Bool)} : execOp r ⟨dst, .build 37 ps, t, pos, af, g⟩ = (do let v ← buildRowS 37 (ps.map fun (i, x) => (i, r x)); pure (Next.value v)) := rfl
set_option maxRecDepth 100000 in
theorem exb_Sg {r : Operand → Value} {dst : Option Nat} {ps : Array (Nat × Operand)} {t : TypeId} {pos : String} {af : Array Edge} {g : Option (Nat × Bool)} : execOp r ⟨dst, .build 39 ps, t, pos, af, g⟩ = (do let v ← buildRowS 39 (ps.map fun (i, x) => (i, r x)); pure (Next.value v)) := rfl
set_option maxRecDepth 100000 in
theorem bld_sc0 (w : World) : (buildRowS 37 #[]).run Tryd.prog w = .ok (.agg (quad 0)) w := run_build w 37 _ _ (by kernel_rfl)
set_option maxRecDepth 100000 in
theorem bld_sg0 (w : World) : (buildRowS 39 #[]).run Tryd.prog w = .ok (.agg (sgr 0 ⟨#[]⟩)) w := run_build w 39 _ _ (by kernel_rfl)
set_option maxRecDepth 100000 in
theorem bld_sg (a : Nat) (pre : ByteArray) (w : World) : (buildRowS 39 #[(0, .agg (quad a)), (1, .string pre)]).run Tryd.prog w = .ok (.agg (sgr a pre)) w := run_build w 39 _ _ (by kernel_rfl)
attribute [local go_sem ↓] exl_Sc exs_Sc exb_Sc exl_Sg exs_Sg exb_Sg exl_Pt exs_Pt
                                                                                                                                                                                                 attribute [local go_sem] ldm_Sc str_Sc bld_sc0 ldr_Sg str_Sg bld_sg bld_sg0 to_quad0 sg_zero ldr_Pt str_Pt pt_zero

/-- Texts in a row. -/
def strs (ss : List ByteArray) : Array Value := (ss.map Value.string).toArray
def Strs (w : World) (b : Nat) (ss : List ByteArray) : Prop := ∃ T fz, w.heap[b]? = some (.cells (strs ss) T fz)
set_option maxRecDepth 100000 in
theorem Strs.keep {w w' : World} {b : Nat} {ss : List ByteArray} (h : Strs w b ss) (hb : Below w.heap.size w w') : Strs w' b ss := by
  obtain ⟨T, f, h⟩ := h; exact ⟨T, f, keepB hb h⟩
set_option maxRecDepth 100000 in
theorem sha_strs (ss : List ByteArray) (b cap : Nat) (W : World) (hT : Tab W) (hS : Strs W b ss) (hb : (cat ss).length < 1152921504606846976 - 300) (hl : ss.length ≤ 9223372036854775807) :
    Calls Tryd.prog 23 #[.slice (some ⟨b, 0, none⟩) ss.length cap] W fun e w' => e = .returned (.string ⟨(SH.sha (cat ss)).toArray⟩) ∧ Below W.heap.size W w' := by
  obtain ⟨TG, fg, hG⟩ := hT
  obtain ⟨T, f, hS⟩ := hS
  refine sOf_any ss _ cap TG fg W hG hb hl (.inr ⟨b, 0, rfl, fun j hj => ?_⟩)
  rw [Nat.zero_add, cell_at hS]
  unfold strs
  simp [hj]
set_option maxRecDepth 100000 in
set_option maxHeartbeats 1000000 in
theorem sred_any (ss : List ByteArray) (b cap : Nat) (W : World) (hT : Tab W) (hS : Strs W b ss) (hb : (cat ss).length < 1152921504606846976 - 300) (hl : ss.length ≤ 9223372036854775807) :
    Calls Tryd.prog 11 #[.slice (some ⟨b, 0, none⟩) ss.length cap] W fun e w' => e = .returned (.agg (quad (redN (cat ss)))) ∧ Below W.heap.size W w' := by
  have H1 := hid (sha_strs ss b cap (W.alloc (.cells (quad 0) 37)) (hT.keep (below_new _)) (hS.keep (below_new _)) hb hl)
  have O1 := fun w => Of_64 (⟨(SH.sha (cat ss)).toArray⟩ : ByteArray) w (by show (SH.sha (cat ss)).toArray.size = 64; simp [SH.sha_length])
  rw [show bytesNat (⟨(SH.sha (cat ss)).toArray⟩ : ByteArray).data.toList % ordL = redN (cat ss) from rfl] at O1
  have O1 := hid O1
  generalize redN (cat ss) = n at *
  generalize (⟨(SH.sha (cat ss)).toArray⟩ : ByteArray) = h at *
  generalize ss.length = len at *
  clear hT hS hb hl
  go_enter Tryd.func11, Tryd.ntmps11
  go_wp2_with fail
  refine H1.out.mono ?_
  rintro e w1 ⟨rfl, hb1⟩
  have R1 := keepB hb1 (alloc_at W (.cells (quad 0) 37))
  have b1 := hid (below_to (below_new _) hb1)
  clear hb1
  obtain ⟨gR, lR, nR, mR⟩ := kept (show hget w1 (W.heap.size) = some (.cells (quad 0) 37 (0, 0)) by first | assumption | go_simp)
  go_wp2_with fail
  try clear jR
  refine (O1.out _).mono ?_
  rintro e w2 ⟨rfl, hb2⟩
  have kR := Kept.on (kept (b := W.heap.size) (o := .cells (quad 0) 37 (0, 0)) (by go_simp)) hb2
  have b2 : Hid (Below W.heap.size W w2) := below_to (by repeat (first | exact Below.refl _ _ | exact below_new _ | exact b1.out | assumption | refine Below.drew ?_ | refine Below.drewN ?_ _ | refine below_alloc ?_ _ | refine below_blk' ?_ (by omega) _)) hb2
  clear hb2
  try clear gR lR nR mR
  obtain ⟨gR, lR, nR, mR⟩ := kR
  clear b1
  go_upto_region 2 with (fail)
  obtain ⟨A, hA⟩ : ∃ b, w2.heap.size = b := ⟨_, rfl⟩
  have wA : W.heap.size ≤ A := by rw [← hA]; exact b2.out.size
  have eRA : (W.heap.size = A) = False := by rw [← hA]; exact nR
  have eAR : (A = W.heap.size) = False := by rw [← hA]; exact mR
  obtain ⟨w3, hw3⟩ : ∃ w3, w2.alloc (.cells (quad n) 37) = w3 := ⟨_, rfl⟩
  have kR := kept (show hget w3 (W.heap.size) = some (.cells (quad 0) 37 (0, 0)) by rw [← hw3]; clear hw3; go_simp)
  have kA := kept (show hget w3 (w2.heap.size) = some (.cells (quad n) 37) by rw [← hw3]; clear hw3; go_simp)
  have b3 : Hid (Below W.heap.size W w3) := by rw [← hw3]; repeat (first | exact Below.refl _ _ | exact below_new _ | exact b2.out | assumption | refine Below.drew ?_ | refine Below.drewN ?_ _ | refine below_alloc ?_ _ | refine below_blk' ?_ (by omega) _)
  rw [hw3]
  clear hw3
  try clear gR lR nR mR
  try clear jR
  have jR := kR.later
  obtain ⟨gR, lR, nR, mR⟩ := kR
  try clear gA lA nA mA
  try clear jA
  have jA := kA.later
  obtain ⟨gA, lA, nA, mA⟩ := kA
  clear b2
  rw [hA] at *
  clear hA
  go_wp2_with fail
  refine bodyPost_ret (v := .agg (quad n)) (results_cell_row Tryd.results11 _ _ (W.heap.size) 37 (quad n) (0, 0) _ (by rfl) (by rw [← hget_eq]; go_simp) Tryd.underlying37 rfl (by rw [info_Sc]; go_simp)) rfl ?_
  exact ⟨rfl, below_blk' b3.out (by omega) _⟩

/-- A multiple of the base point. -/
def bm (n : Nat) : P4 := P4.both (dP bsB) P4.zero 0 n
set_option maxRecDepth 100000 in
theorem bm_ok {n : Nat} (h : n < ordL) : (bm n).ok (Pt.mul n bP) := by
  have := P4.both_ok base_ok P4.zero_ok (m := 0) (n := n) (by decide) (Nat.lt_trans h (by decide))
  rw [Pt.mul_zero, Pt.zero_add] at this
  exact this
set_option maxRecDepth 100000 in
theorem stimes_core (n : Nat) (q : P4) (W : World) (h : n < ordL) (hq : bm n = q) : Calls Tryd.prog 12 #[.agg (quad n)] W fun e w' => e = .returned (pv q) ∧ Below W.heap.size W w' := by
  have Z1 := hid (fun w => pzero_any w)
  have B1 : Hid (∀ w, Calls Tryd.prog 21 #[pv P4.zero, .agg (quad 0), .agg (quad n)] w fun r w' => r = .returned (pv q) ∧ Below w.heap.size w w') := hid (fun w => hq ▸ pboth_v P4.zero 0 n w P4.zero_ok.bd (by decide) (Nat.lt_trans h (by decide)))
  clear hq h
  go_enter Tryd.func12, Tryd.ntmps12
  go_upto_region 1 with (fail)
  obtain ⟨w1, hw1⟩ : ∃ w1, (W.alloc (.cells (quad n) 37)).alloc (.cells (pt 0 0 0 0 false) 46) = w1 := ⟨_, rfl⟩
  have kN := kept (show hget w1 (W.heap.size) = some (.cells (quad n) 37 (0, 0)) by rw [← hw1]; clear hw1; go_simp)
  have kR := kept (show hget w1 (W.heap.size + 1) = some (.cells (pt 0 0 0 0 false) 46 (0, 0)) by rw [← hw1]; clear hw1; go_simp)
  have b1 : Hid (Below W.heap.size W w1) := by rw [← hw1]; repeat (first | exact Below.refl _ _ | exact below_new _ | assumption | refine Below.drew ?_ | refine Below.drewN ?_ _ | refine below_alloc ?_ _ | refine below_blk' ?_ (by omega) _)
  rw [hw1]
  clear hw1
  try clear gN lN nN mN
  try clear jN
  have jN := kN.later
  obtain ⟨gN, lN, nN, mN⟩ := kN
  try clear gR lR nR mR
  try clear jR
  have jR := kR.later
  obtain ⟨gR, lR, nR, mR⟩ := kR
  refine wp_region_later_tail 4 (by kernel_rfl) (by kernel_rfl) ?_
  simp only [List.take_succ_cons, List.take_zero, List.drop_succ_cons, List.drop_zero]
  repeat ((go_big_quiet_step ((first | (go_at_call 25; with_reducible exact calls_later (Z1.out _)) | (go_at_call 21; with_reducible exact calls_later (B1.out _))))))
  refine wpQuiet_nil ?_
  intro wL hwL
  obtain ⟨⟨w8, hL⟩, e8⟩ := hwL
  change wL = w8 at e8
  subst e8
  obtain ⟨gR, lR, nR, mR⟩ := kept (jR ⟨_, hL⟩)
  go_wp2_with fail
  refine bodyPost_ret (v := .agg (pt q.x q.y q.z q.t true)) (results_cell_row Tryd.results12 _ _ (W.heap.size + 1) 46 (pt q.x q.y q.z q.t true) (0, 0) _ (by rfl) (by rw [← hget_eq]; go_simp) Tryd.underlying46 rfl (by rw [info_Pt]; go_simp)) rfl ?_
  exact ⟨rfl, below_blk' (below_to b1.out hL) (by omega) _⟩
set_option maxRecDepth 100000 in
theorem stimes_any (n : Nat) (W : World) (h : n < ordL) : Calls Tryd.prog 12 #[.agg (quad n)] W fun e w' => e = .returned (pv (bm n)) ∧ Below W.heap.size W w' := stimes_core n _ W h rfl

end Go.Proofs.YtceljjnohjnepaaDoor
