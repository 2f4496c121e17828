/- The digest as a plain function (SHA-512). -/
import Derived.Test.YtjfjbanoikbnoaaDoorU64
namespace Go.Proofs.YtjfjbanoikbnoaaDoor.SH

def ror (n : Nat) (x : UInt64) : UInt64 := (x >>> UInt64.ofNat n) ||| (x <<< UInt64.ofNat (64 - n))
def s0 (x : UInt64) : UInt64 := (ror 1 x ^^^ ror 8 x) ^^^ (x >>> 7)
def s1 (x : UInt64) : UInt64 := (ror 19 x ^^^ ror 61 x) ^^^ (x >>> 6)
def S0 (x : UInt64) : UInt64 := (ror 28 x ^^^ ror 34 x) ^^^ ror 39 x
def S1 (x : UInt64) : UInt64 := (ror 14 x ^^^ ror 18 x) ^^^ ror 41 x
/-- The word that stands behind a list of words (16 at least). -/
def word (l : List UInt64) : UInt64 := l.getD (l.length - 16) 0 + s0 (l.getD (l.length - 15) 0) + l.getD (l.length - 7) 0 + s1 (l.getD (l.length - 2) 0)
/-- So many words more. -/
def ext : Nat → List UInt64 → List UInt64
  | 0, l => l
  | n + 1, l => ext n l ++ [word (ext n l)]
theorem ext_length (n : Nat) (l : List UInt64) : (ext n l).length = l.length + n := by
  induction n with
  | zero => rfl
  | succ n ih => rw [ext, List.length_append, ih]; rfl
/-- Eight words. -/
structure St where
  a : UInt64
  b : UInt64
  c : UInt64
  d : UInt64
  e : UInt64
  f : UInt64
  g : UInt64
  h : UInt64
def tU (x : St) (k w : UInt64) : UInt64 := x.h + S1 x.e + (x.g ^^^ (x.e &&& (x.f ^^^ x.g))) + k + w
def tV (x : St) : UInt64 := S0 x.a + ((x.a &&& x.b) ||| (x.c &&& (x.a ||| x.b)))
def round (x : St) (k w : UInt64) : St := ⟨tU x k w + tV x, x.a, x.b, x.c, x.d + tU x k w, x.e, x.f, x.g⟩
def K : List UInt64 := [
  0x428a2f98d728ae22, 0x7137449123ef65cd, 0xb5c0fbcfec4d3b2f, 0xe9b5dba58189dbbc,
  0x3956c25bf348b538, 0x59f111f1b605d019, 0x923f82a4af194f9b, 0xab1c5ed5da6d8118,
  0xd807aa98a3030242, 0x12835b0145706fbe, 0x243185be4ee4b28c, 0x550c7dc3d5ffb4e2,
  0x72be5d74f27b896f, 0x80deb1fe3b1696b1, 0x9bdc06a725c71235, 0xc19bf174cf692694,
  0xe49b69c19ef14ad2, 0xefbe4786384f25e3, 0x0fc19dc68b8cd5b5, 0x240ca1cc77ac9c65,
  0x2de92c6f592b0275, 0x4a7484aa6ea6e483, 0x5cb0a9dcbd41fbd4, 0x76f988da831153b5,
  0x983e5152ee66dfab, 0xa831c66d2db43210, 0xb00327c898fb213f, 0xbf597fc7beef0ee4,
  0xc6e00bf33da88fc2, 0xd5a79147930aa725, 0x06ca6351e003826f, 0x142929670a0e6e70,
  0x27b70a8546d22ffc, 0x2e1b21385c26c926, 0x4d2c6dfc5ac42aed, 0x53380d139d95b3df,
  0x650a73548baf63de, 0x766a0abb3c77b2a8, 0x81c2c92e47edaee6, 0x92722c851482353b,
  0xa2bfe8a14cf10364, 0xa81a664bbc423001, 0xc24b8b70d0f89791, 0xc76c51a30654be30,
  0xd192e819d6ef5218, 0xd69906245565a910, 0xf40e35855771202a, 0x106aa07032bbd1b8,
  0x19a4c116b8d2d0c8, 0x1e376c085141ab53, 0x2748774cdf8eeb99, 0x34b0bcb5e19b48a8,
  0x391c0cb3c5c95a63, 0x4ed8aa4ae3418acb, 0x5b9cca4f7763e373, 0x682e6ff3d6b2b8a3,
  0x748f82ee5defb2fc, 0x78a5636f43172f60, 0x84c87814a1f0ab72, 0x8cc702081a6439ec,
  0x90befffa23631e28, 0xa4506cebde82bde9, 0xbef9a3f7b2c67915, 0xc67178f2e372532b,
  0xca273eceea26619c, 0xd186b8c721c0c207, 0xeada7dd6cde0eb1e, 0xf57d4f7fee6ed178,
  0x06f067aa72176fba, 0x0a637dc5a2c898a6, 0x113f9804bef90dae, 0x1b710b35131c471b,
  0x28db77f523047d84, 0x32caab7b40c72493, 0x3c9ebe0a15c9bebc, 0x431d67c49c100d4c,
  0x4cc5d4becb3e42b6, 0x597f299cfc657e2a, 0x5fcb6fab3ad6faec, 0x6c44198c4a475817]
def init : St := ⟨0x6a09e667f3bcc908, 0xbb67ae8584caa73b, 0x3c6ef372fe94f82b, 0xa54ff53a5f1d36f1, 0x510e527fade682d1, 0x9b05688c2b3e6c1f, 0x1f83d9abfb41bd6b, 0x5be0cd19137e2179⟩
/-- The first n rounds. -/
def rounds (W : List UInt64) (x : St) : Nat → St
  | 0 => x
  | n + 1 => round (rounds W x n) (K.getD n 0) (W.getD n 0)
def plus (x y : St) : St := ⟨x.a + y.a, x.b + y.b, x.c + y.c, x.d + y.d, x.e + y.e, x.f + y.f, x.g + y.g, x.h + y.h⟩
/-- Eight bytes, the highest first. -/
def be : List UInt8 → UInt64 := List.foldl (fun x c => (x <<< 8) ||| c.toUInt64) 0
/-- The sixteen words of a block. -/
def words (b : List UInt8) (n : Nat) : List UInt64 := (List.range n).map fun i => be ((b.drop (8 * i)).take 8)
def block (h : St) (b : List UInt8) : St := plus h (rounds (ext 64 (words b 16)) h 80)
/-- What comes of the first k blocks. -/
def run (l : List UInt8) : Nat → St
  | 0 => init
  | k + 1 => block (run l k) ((l.drop (128 * k)).take 128)
def bytes8 (x : UInt64) : List UInt8 := ([56, 48, 40, 32, 24, 16, 8, 0] : List UInt64).map fun n => (x >>> n).toUInt8
/-- How many noughts stand behind the bit. -/
def zeros (n : Nat) : Nat := (112 + 127 - n % 128) % 128
def pad (l : List UInt8) : List UInt8 := l ++ [0x80] ++ List.replicate (zeros l.length) 0 ++ List.replicate 8 0 ++ bytes8 (8 * UInt64.ofNat l.length)
def out (x : St) : List UInt8 := [x.a, x.b, x.c, x.d, x.e, x.f, x.g, x.h].flatMap bytes8
def sha (l : List UInt8) : List UInt8 := out (run (pad l) ((pad l).length / 128))

theorem sha_nil : (sha []).take 4 = [0xcf, 0x83, 0xe1, 0x35] := by decide +kernel
theorem sha_abc : (sha [97, 98, 99]).take 4 = [0xdd, 0xaf, 0x35, 0xa1] := by decide +kernel
theorem sha_length (l : List UInt8) : (sha l).length = 64 := by simp [sha, out, bytes8]

theorem run_append (l m : List UInt8) (k : Nat) (h : 128 * k ≤ l.length) : run (l ++ m) k = run l k := by
  induction k with
  | zero => rfl
  | succ k ih =>
    rw [run, run, ih (by omega), List.drop_append_of_le_length (by omega), List.take_append_of_le_length (by rw [List.length_drop]; omega)]
theorem pad_length (l : List UInt8) : (pad l).length % 128 = 0 := by
  simp [pad, bytes8, zeros]; omega

end Go.Proofs.YtjfjbanoikbnoaaDoor.SH
