/- The digest as a plain function (SHA-256), and the tag (HMAC). -/
import Derived.Test.YtejkimhmpnogkaaDoorU32
namespace Go.Proofs.YtejkimhmpnogkaaDoor.SM

def ror (n : Nat) (x : UInt32) : UInt32 := (x >>> UInt32.ofNat n) ||| (x <<< UInt32.ofNat (32 - n))
def s0 (x : UInt32) : UInt32 := (ror 7 x ^^^ ror 18 x) ^^^ (x >>> 3)
def s1 (x : UInt32) : UInt32 := (ror 17 x ^^^ ror 19 x) ^^^ (x >>> 10)
def S0 (x : UInt32) : UInt32 := (ror 2 x ^^^ ror 13 x) ^^^ ror 22 x
def S1 (x : UInt32) : UInt32 := (ror 6 x ^^^ ror 11 x) ^^^ ror 25 x
/-- The word that stands behind a list of words (16 at least). -/
def word (l : List UInt32) : UInt32 := l.getD (l.length - 16) 0 + s0 (l.getD (l.length - 15) 0) + l.getD (l.length - 7) 0 + s1 (l.getD (l.length - 2) 0)
/-- So many words more. -/
def ext : Nat → List UInt32 → List UInt32
  | 0, l => l
  | n + 1, l => ext n l ++ [word (ext n l)]
theorem ext_length (n : Nat) (l : List UInt32) : (ext n l).length = l.length + n := by
  induction n with
  | zero => rfl
  | succ n ih => rw [ext, List.length_append, ih]; rfl
/-- Eight words. -/
structure St where
  a : UInt32
  b : UInt32
  c : UInt32
  d : UInt32
  e : UInt32
  f : UInt32
  g : UInt32
  h : UInt32
def tU (x : St) (k w : UInt32) : UInt32 := x.h + S1 x.e + (x.g ^^^ (x.e &&& (x.f ^^^ x.g))) + k + w
def tV (x : St) : UInt32 := S0 x.a + ((x.a &&& x.b) ||| (x.c &&& (x.a ||| x.b)))
def round (x : St) (k w : UInt32) : St := ⟨tU x k w + tV x, x.a, x.b, x.c, x.d + tU x k w, x.e, x.f, x.g⟩
def K : List UInt32 := [
  0x428a2f98, 0x71374491, 0xb5c0fbcf, 0xe9b5dba5, 0x3956c25b, 0x59f111f1, 0x923f82a4, 0xab1c5ed5,
  0xd807aa98, 0x12835b01, 0x243185be, 0x550c7dc3, 0x72be5d74, 0x80deb1fe, 0x9bdc06a7, 0xc19bf174,
  0xe49b69c1, 0xefbe4786, 0x0fc19dc6, 0x240ca1cc, 0x2de92c6f, 0x4a7484aa, 0x5cb0a9dc, 0x76f988da,
  0x983e5152, 0xa831c66d, 0xb00327c8, 0xbf597fc7, 0xc6e00bf3, 0xd5a79147, 0x06ca6351, 0x14292967,
  0x27b70a85, 0x2e1b2138, 0x4d2c6dfc, 0x53380d13, 0x650a7354, 0x766a0abb, 0x81c2c92e, 0x92722c85,
  0xa2bfe8a1, 0xa81a664b, 0xc24b8b70, 0xc76c51a3, 0xd192e819, 0xd6990624, 0xf40e3585, 0x106aa070,
  0x19a4c116, 0x1e376c08, 0x2748774c, 0x34b0bcb5, 0x391c0cb3, 0x4ed8aa4a, 0x5b9cca4f, 0x682e6ff3,
  0x748f82ee, 0x78a5636f, 0x84c87814, 0x8cc70208, 0x90befffa, 0xa4506ceb, 0xbef9a3f7, 0xc67178f2]
def init : St := ⟨0x6a09e667, 0xbb67ae85, 0x3c6ef372, 0xa54ff53a, 0x510e527f, 0x9b05688c, 0x1f83d9ab, 0x5be0cd19⟩
/-- The first n rounds. -/
def rounds (W : List UInt32) (x : St) : Nat → St
  | 0 => x
  | n + 1 => round (rounds W x n) (K.getD n 0) (W.getD n 0)
def plus (x y : St) : St := ⟨x.a + y.a, x.b + y.b, x.c + y.c, x.d + y.d, x.e + y.e, x.f + y.f, x.g + y.g, x.h + y.h⟩
/-- Four bytes, the highest first. -/
def be : List UInt8 → UInt32 := List.foldl (fun x c => (x <<< 8) ||| c.toUInt32) 0
/-- The sixteen words of a block. -/
def words (b : List UInt8) (n : Nat) : List UInt32 := (List.range n).map fun i => be ((b.drop (4 * i)).take 4)
def block (h : St) (b : List UInt8) : St := plus h (rounds (ext 48 (words b 16)) h 64)
/-- What comes of the first k blocks. -/
def run (l : List UInt8) : Nat → St
  | 0 => init
  | k + 1 => block (run l k) ((l.drop (64 * k)).take 64)
def bytes4 (x : UInt32) : List UInt8 := ([24, 16, 8, 0] : List UInt32).map fun n => (x >>> n).toUInt8
def bytes8 (x : UInt64) : List UInt8 := ([56, 48, 40, 32, 24, 16, 8, 0] : List UInt64).map fun n => (x >>> n).toUInt8
/-- How many noughts stand behind the bit. -/
def zeros (n : Nat) : Nat := (119 - n % 64) % 64
def pad (l : List UInt8) : List UInt8 := l ++ ([0x80] ++ List.replicate (zeros l.length) 0) ++ bytes8 (8 * UInt64.ofNat l.length)
def out (x : St) : List UInt8 := [x.a, x.b, x.c, x.d, x.e, x.f, x.g, x.h].flatMap bytes4
def sum (l : List UInt8) : List UInt8 := out (run (pad l) ((pad l).length / 64))
/-- A key of 64 bytes, turned by a byte. -/
def key (k : List UInt8) : List UInt8 := if 64 < k.length then sum k else k
def padded (k : List UInt8) (c : UInt8) : List UInt8 := (key k).map (c ^^^ ·) ++ List.replicate (64 - (key k).length) c
def tag (k s : List UInt8) : List UInt8 := sum (padded k 0x5c ++ sum (padded k 0x36 ++ s))

theorem sum_nil : sum [] = [227, 176, 196, 66, 152, 252, 28, 20, 154, 251, 244, 200, 153, 111, 185, 36, 39, 174, 65, 228, 100, 155, 147, 76, 164, 149, 153, 27, 120, 82, 184, 85] := by decide +kernel
theorem sum_abc : sum [97, 98, 99] = [186, 120, 22, 191, 143, 1, 207, 234, 65, 65, 64, 222, 93, 174, 34, 35, 176, 3, 97, 163, 150, 23, 122, 156, 180, 16, 255, 97, 242, 0, 21, 173] := by decide +kernel
theorem sum_ab : (sum [97, 98]).take 1 = [251] := by decide +kernel
theorem out_length (x : St) : (out x).length = 32 := rfl
theorem sum_length (l : List UInt8) : (sum l).length = 32 := rfl
theorem tag_length (k s : List UInt8) : (tag k s).length = 32 := rfl
theorem key_le (k : List UInt8) : (key k).length ≤ 64 := by
  unfold key; split
  · rw [sum_length]; omega
  · omega
theorem padded_length (k : List UInt8) (c : UInt8) : (padded k c).length = 64 := by
  have := key_le k
  simp [padded]; omega

theorem run_append (l m : List UInt8) (k : Nat) (h : 64 * k ≤ l.length) : run (l ++ m) k = run l k := by
  induction k with
  | zero => rfl
  | succ k ih =>
    rw [run, run, ih (by omega), List.drop_append_of_le_length (by omega), List.take_append_of_le_length (by rw [List.length_drop]; omega)]
theorem pad_length (l : List UInt8) : (pad l).length % 64 = 0 := by
  simp [pad, bytes8, zeros]; omega

end Go.Proofs.YtejkimhmpnogkaaDoor.SM
