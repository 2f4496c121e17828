/- The group law of a twisted Edwards curve (a = -1, d no square), over whatever field of P elements: sums do not hang on the order nor on the brackets; multiples. The curve of this program: numbers modulo 2^255 - 19; minus one has a root, d has none. Points by coordinates: the program's four, the document's three; sums and doubles. The base point, multiples reckoned with numbers, and its order. Points by the first coordinate of Montgomery's form: doubles, and sums of two whose difference is known. Points as the program has them: four numbers; what they stand for; sums and doubles of them. The curve: a point put together, sums. The curve: its number, sums of points. -/
import Derived.Test.YtceljjnohjnepaaDoorM01
import Derived.Test.YtceljjnohjnepaaDoorM06
import Derived.Test.YtceljjnohjnepaaDoorM07
namespace Go.Proofs.YtceljjnohjnepaaDoor.EG
/-- A field of P elements, with a root of minus one, and a number that is no square. -/
structure Crv (P : Nat) [NeZero P] where
  D : Fin P
  inv : Fin P → Fin P
  i : Fin P
  hinv : ∀ a, a ≠ 0 → a * inv a = 1
  two : (2 : Fin P) ≠ 0
  one : (1 : Fin P) ≠ 0
  hi : i * i = -1
  nsq : ∀ x : Fin P, x * x ≠ D
variable {P : Nat} [NeZero P]
def onC (d x y : Fin P) : Prop := y * y - x * x = 1 + d * (x * x) * (y * y)
set_option maxRecDepth 100000 in
theorem closed (d x1 y1 x2 y2 : Fin P) (h1 : onC d x1 y1) (h2 : onC d x2 y2) :
  let m := d*x1*x2*y1*y2; let a := x1*y2+y1*x2; let b := y1*y2+x1*x2
  b*b*((1+m)*(1+m)) - a*a*((1-m)*(1-m)) = (1+m)*(1+m)*((1-m)*(1-m)) + d*(a*a)*(b*b) := by
  unfold onC at h1 h2
  intro m a b
  grind
set_option maxRecDepth 100000 in
theorem assocx (d x1 y1 x2 y2 x3 y3 : Fin P) (h1 : onC d x1 y1) (h2 : onC d x2 y2) (h3 : onC d x3 y3) :
  let m := d*x1*x2*y1*y2; let a := x1*y2+y1*x2; let b := y1*y2+x1*x2
  let M := d*x2*x3*y2*y3; let A := x2*y3+y2*x3; let B := y2*y3+x2*x3
  (a*(1-m)*y3 + b*(1+m)*x3)*((1+M)*(1-M)+d*A*B*x1*y1) = (A*(1-M)*y1 + B*(1+M)*x1)*((1+m)*(1-m)+d*a*b*x3*y3) := by
  unfold onC at h1 h2 h3
  intro m a b M A B
  grind
set_option maxRecDepth 100000 in
theorem assocy (d x1 y1 x2 y2 x3 y3 : Fin P) (h1 : onC d x1 y1) (h2 : onC d x2 y2) (h3 : onC d x3 y3) :
  let m := d*x1*x2*y1*y2; let a := x1*y2+y1*x2; let b := y1*y2+x1*x2
  let M := d*x2*x3*y2*y3; let A := x2*y3+y2*x3; let B := y2*y3+x2*x3
  (b*(1+m)*y3 + a*(1-m)*x3)*((1+M)*(1-M)-d*A*B*x1*y1) = (B*(1+M)*y1 + A*(1-M)*x1)*((1+m)*(1-m)-d*a*b*x3*y3) := by
  unfold onC at h1 h2 h3
  intro m a b M A B
  grind
section
set_option maxRecDepth 100000 in
theorem Crv.mul_zero (C : Crv P) {a b : Fin P} (h : a * b = 0) : a = 0 ∨ b = 0 := by
  by_cases ha : a = 0
  · exact .inl ha
  · right
    have := C.hinv a ha
    grind
set_option maxRecDepth 100000 in
theorem Crv.mul_ne (C : Crv P) {a b : Fin P} (ha : a ≠ 0) (hb : b ≠ 0) : a * b ≠ 0 := fun h => (C.mul_zero h).elim ha hb
set_option maxRecDepth 100000 in
theorem Crv.cancel (C : Crv P) {k u v : Fin P} (hk : k ≠ 0) (h : k * u = k * v) : u = v := by
  have := C.hinv k hk
  have e : u = C.inv k * (k * u) := by grind
  have e' : v = C.inv k * (k * v) := by grind
  rw [e, e', h]
set_option maxRecDepth 100000 in
theorem Crv.sq_id1 (C : Crv P) {x1 y1 x2 y2 : Fin P} (h1 : onC C.D x1 y1) (h2 : onC C.D x2 y2) (hm : (C.D*x1*x2*y1*y2) * (C.D*x1*x2*y1*y2) = 1) :
    (C.i * x1 + (C.D*x1*x2*y1*y2) * y1) * (C.i * x1 + (C.D*x1*x2*y1*y2) * y1) = C.D * ((x1*y1*(C.i*x2 + y2)) * (x1*y1*(C.i*x2+y2))) := by
  have hi := C.hi
  unfold onC at h1 h2
  generalize C.D = d at *
  generalize C.i = i at *
  grind
set_option maxRecDepth 100000 in
theorem Crv.no_one (C : Crv P) {x1 y1 x2 y2 : Fin P} (h1 : onC C.D x1 y1) (h2 : onC C.D x2 y2) : (C.D*x1*x2*y1*y2) * (C.D*x1*x2*y1*y2) ≠ 1 := by
  intro hm
  have key : ∀ (u v : Fin P), u * u = C.D * (v * v) → v = 0 := by
    intro u v h
    by_cases hv : v = 0
    · exact hv
    · exfalso
      have hvi := C.hinv v hv
      refine C.nsq (u * C.inv v) ?_
      generalize C.inv v = w at *
      generalize C.D = d at *
      grind
  have hxy : x1 * y1 ≠ 0 := by
    intro h0
    have : (C.D*x1*x2*y1*y2) = 0 := by
      generalize C.D = d at *
      grind
    rw [this] at hm
    exact C.one (by grind)
  have k1 := key _ _ (C.sq_id1 h1 h2 hm)
  have h1' : onC C.D x1 (-y1) := by unfold onC at *; grind
  have h2' : onC C.D x2 (-y2) := by unfold onC at *; grind
  have hm' : (C.D*x1*x2*(-y1)*(-y2)) * (C.D*x1*x2*(-y1)*(-y2)) = 1 := by
    rw [← hm]; grind
  have k2 := key _ _ (C.sq_id1 h1' h2' hm')
  have a1 := (C.mul_zero k1).resolve_left hxy
  have hxy' : x1 * -y1 ≠ 0 := by intro h; exact hxy (by grind)
  have a2 := (C.mul_zero k2).resolve_left hxy'
  have a3 : (2 : Fin P) * y2 = 0 := by
    have : (C.i * x2 + y2) - (C.i * x2 + -y2) = 0 := by rw [a1, a2]; grind
    grind
  have a4 := (C.mul_zero a3).resolve_left C.two
  have : (C.D*x1*x2*y1*y2) = 0 := by rw [a4]; grind
  rw [this] at hm
  exact C.one (by grind)
set_option maxRecDepth 100000 in
theorem Crv.den1 (C : Crv P) {x1 y1 x2 y2 : Fin P} (h1 : onC C.D x1 y1) (h2 : onC C.D x2 y2) : 1 + C.D*x1*x2*y1*y2 ≠ 0 := fun h => C.no_one h1 h2 (by grind)
set_option maxRecDepth 100000 in
theorem Crv.den2 (C : Crv P) {x1 y1 x2 y2 : Fin P} (h1 : onC C.D x1 y1) (h2 : onC C.D x2 y2) : 1 - C.D*x1*x2*y1*y2 ≠ 0 := fun h => C.no_one h1 h2 (by grind)
end

/-- A point of the curve. -/
structure Pt (C : Crv P) where
  x : Fin P
  y : Fin P
  on : onC C.D x y
set_option maxRecDepth 100000 in
theorem Pt.ext' {C : Crv P} {p q : Pt C} (hx : p.x = q.x) (hy : p.y = q.y) : p = q := by
  cases p; cases q; simp_all
variable {C : Crv P}
def Pt.m (p q : Pt C) : Fin P := C.D * p.x * q.x * p.y * q.y
set_option maxRecDepth 100000 in
theorem Pt.den1 (p q : Pt C) : 1 + p.m q ≠ 0 := C.den1 p.on q.on
set_option maxRecDepth 100000 in
theorem Pt.den2 (p q : Pt C) : 1 - p.m q ≠ 0 := C.den2 p.on q.on
def Pt.ax (p q : Pt C) : Fin P := (p.x * q.y + p.y * q.x) * C.inv (1 + p.m q)
def Pt.ay (p q : Pt C) : Fin P := (p.y * q.y + p.x * q.x) * C.inv (1 - p.m q)
set_option maxRecDepth 100000 in
theorem Pt.ax_spec (p q : Pt C) : (1 + p.m q) * p.ax q = p.x * q.y + p.y * q.x := by
  have := C.hinv _ (p.den1 q)
  unfold Pt.ax
  grind
set_option maxRecDepth 100000 in
theorem Pt.ay_spec (p q : Pt C) : (1 - p.m q) * p.ay q = p.y * q.y + p.x * q.x := by
  have := C.hinv _ (p.den2 q)
  unfold Pt.ay
  grind
set_option maxRecDepth 100000 in
theorem Pt.add_on (p q : Pt C) : onC C.D (p.ax q) (p.ay q) := by
  have h := closed C.D p.x p.y q.x q.y p.on q.on
  have h1 := p.ax_spec q
  have h2 := p.ay_spec q
  have n1 := p.den1 q
  have n2 := p.den2 q
  have nn := C.mul_ne (C.mul_ne n1 n1) (C.mul_ne n2 n2)
  refine C.cancel nn ?_
  unfold Pt.m at *
  simp only [] at h
  rw [← h1, ← h2] at h
  generalize p.ax q = u at *
  generalize p.ay q = v at *
  generalize C.D * p.x * q.x * p.y * q.y = m at *
  clear h1 h2 n1 n2 nn
  generalize C.D = d at *
  grind
def Pt.add (p q : Pt C) : Pt C := ⟨p.ax q, p.ay q, p.add_on q⟩
def Pt.zero : Pt C := ⟨0, 1, by unfold onC; grind⟩
def Pt.neg (p : Pt C) : Pt C := ⟨-p.x, p.y, by have := p.on; unfold onC at *; grind⟩
set_option maxRecDepth 100000 in
theorem Pt.add_unique (p q r : Pt C) (h1 : (1 + p.m q) * r.x = p.x * q.y + p.y * q.x) (h2 : (1 - p.m q) * r.y = p.y * q.y + p.x * q.x) : p.add q = r :=
  Pt.ext' (C.cancel (p.den1 q) ((p.ax_spec q).trans h1.symm)) (C.cancel (p.den2 q) ((p.ay_spec q).trans h2.symm))
set_option maxRecDepth 100000 in
theorem Pt.add_comm (p q : Pt C) : p.add q = q.add p := by
  have e : p.m q = q.m p := by unfold Pt.m; grind
  refine Pt.add_unique p q _ ?_ ?_
  · rw [e]; have := q.ax_spec p; show (1 + q.m p) * q.ax p = _; grind
  · rw [e]; have := q.ay_spec p; show (1 - q.m p) * q.ay p = _; grind
set_option maxRecDepth 100000 in
theorem Pt.zero_add (p : Pt C) : Pt.zero.add p = p := by
  refine Pt.add_unique _ _ _ ?_ ?_ <;> simp only [Pt.m, Pt.zero] <;> grind
set_option maxRecDepth 100000 in
theorem Pt.add_zero (p : Pt C) : p.add Pt.zero = p := by rw [Pt.add_comm, Pt.zero_add]
set_option maxRecDepth 100000 in
theorem Pt.neg_add (p : Pt C) : p.neg.add p = Pt.zero := by
  have := p.on
  unfold onC at this
  refine Pt.add_unique _ _ _ ?_ ?_ <;> simp only [Pt.m, Pt.zero, Pt.neg] <;> grind
set_option maxRecDepth 100000 in
/-- The sum of three does not hang on the brackets. -/
theorem Pt.add_assoc (p q r : Pt C) : (p.add q).add r = p.add (q.add r) := by
  have hx := assocx C.D p.x p.y q.x q.y r.x r.y p.on q.on r.on
  have hy := assocy C.D p.x p.y q.x q.y r.x r.y p.on q.on r.on
  simp only [] at hx hy
  have a1 := p.ax_spec q
  have a2 := p.ay_spec q
  have b1 := q.ax_spec r
  have b2 := q.ay_spec r
  have s1 := (p.add q).ax_spec r
  have s2 := (p.add q).ay_spec r
  have t1 := p.ax_spec (q.add r)
  have t2 := p.ay_spec (q.add r)
  have n1 := C.mul_ne (C.mul_ne (p.den1 q) (p.den2 q)) (C.mul_ne (q.den1 r) (q.den2 r))
  have n2 := C.mul_ne ((p.add q).den1 r) (p.den1 (q.add r))
  have n3 := C.mul_ne ((p.add q).den2 r) (p.den2 (q.add r))
  have e1 : (p.add q).m r = C.D * p.ax q * r.x * p.ay q * r.y := rfl
  have e2 : p.m (q.add r) = C.D * p.x * q.ax r * p.y * q.ay r := rfl
  have f1 : (p.add q).x = p.ax q := rfl
  have f2 : (p.add q).y = p.ay q := rfl
  have g1 : (q.add r).x = q.ax r := rfl
  have g2 : (q.add r).y = q.ay r := rfl
  rw [e1] at s1 s2 n2 n3
  rw [e2] at t1 t2 n2 n3
  rw [f1, f2] at s1 s2
  rw [g1, g2] at t1 t2
  unfold Pt.m at a1 a2 b1 b2 n1
  clear e1 e2 f1 f2 g1 g2
  refine Pt.ext' (C.cancel n2 (C.cancel n1 ?_)) (C.cancel n3 (C.cancel n1 ?_))
  · show _ * (_ * (p.add q).ax r) = _ * (_ * p.ax (q.add r))
    generalize (p.add q).ax r = X at *
    generalize p.ax (q.add r) = X' at *
    clear s2 t2 n1 n2 n3 hy
    generalize p.ax q = u at *
    generalize p.ay q = v at *
    generalize q.ax r = u' at *
    generalize q.ay r = v' at *
    generalize C.D = d at *
    generalize p.x = x1 at *
    generalize p.y = y1 at *
    generalize q.x = x2 at *
    generalize q.y = y2 at *
    generalize r.x = x3 at *
    generalize r.y = y3 at *
    rw [← a1, ← a2, ← b1, ← b2] at hx
    generalize d * x1 * x2 * y1 * y2 = m at *
    generalize d * x2 * x3 * y2 * y3 = M at *
    clear a1 a2 b1 b2
    have l1 : (1 + m) * (1 - m) * ((1 + M) * (1 - M)) * (((1 + d * u * x3 * v * y3) * (1 + d * x1 * u' * y1 * v')) * X) = ((1 + m) * (1 - m) * ((1 + M) * (1 - M))) * ((1 + d * x1 * u' * y1 * v') * (u * y3 + v * x3)) := by rw [← s1]; grind
    have l2 : (1 + m) * (1 - m) * ((1 + M) * (1 - M)) * (((1 + d * u * x3 * v * y3) * (1 + d * x1 * u' * y1 * v')) * X') = ((1 + m) * (1 - m) * ((1 + M) * (1 - M))) * ((1 + d * u * x3 * v * y3) * (x1 * v' + y1 * u')) := by rw [← t1]; grind
    have l3 : ((1 + m) * (1 - m) * ((1 + M) * (1 - M))) * ((1 + d * x1 * u' * y1 * v') * (u * y3 + v * x3)) = ((1 + m) * (1 - m) * ((1 + M) * (1 - M))) * ((1 + d * u * x3 * v * y3) * (x1 * v' + y1 * u')) := by
      clear s1 t1 l1 l2
      grind
    exact l1.trans (l3.trans l2.symm)
  · show _ * (_ * (p.add q).ay r) = _ * (_ * p.ay (q.add r))
    generalize (p.add q).ay r = X at *
    generalize p.ay (q.add r) = X' at *
    clear s1 t1 n1 n2 n3 hx
    generalize p.ax q = u at *
    generalize p.ay q = v at *
    generalize q.ax r = u' at *
    generalize q.ay r = v' at *
    generalize C.D = d at *
    generalize p.x = x1 at *
    generalize p.y = y1 at *
    generalize q.x = x2 at *
    generalize q.y = y2 at *
    generalize r.x = x3 at *
    generalize r.y = y3 at *
    rw [← a1, ← a2, ← b1, ← b2] at hy
    generalize d * x1 * x2 * y1 * y2 = m at *
    generalize d * x2 * x3 * y2 * y3 = M at *
    clear a1 a2 b1 b2
    have l1 : (1 + m) * (1 - m) * ((1 + M) * (1 - M)) * (((1 - d * u * x3 * v * y3) * (1 - d * x1 * u' * y1 * v')) * X) = ((1 + m) * (1 - m) * ((1 + M) * (1 - M))) * ((1 - d * x1 * u' * y1 * v') * (v * y3 + u * x3)) := by rw [← s2]; grind
    have l2 : (1 + m) * (1 - m) * ((1 + M) * (1 - M)) * (((1 - d * u * x3 * v * y3) * (1 - d * x1 * u' * y1 * v')) * X') = ((1 + m) * (1 - m) * ((1 + M) * (1 - M))) * ((1 - d * u * x3 * v * y3) * (y1 * v' + x1 * u')) := by rw [← t2]; grind
    have l3 : ((1 + m) * (1 - m) * ((1 + M) * (1 - M))) * ((1 - d * x1 * u' * y1 * v') * (v * y3 + u * x3)) = ((1 + m) * (1 - m) * ((1 + M) * (1 - M))) * ((1 - d * u * x3 * v * y3) * (y1 * v' + x1 * u')) := by
      clear s2 t2 l1 l2
      grind
    exact l1.trans (l3.trans l2.symm)

/-- So many times a point. -/
def Pt.mul : Nat → Pt C → Pt C
  | 0, _ => Pt.zero
  | n + 1, p => (Pt.mul n p).add p
set_option maxRecDepth 100000 in
theorem Pt.mul_zero (p : Pt C) : Pt.mul 0 p = Pt.zero := rfl
set_option maxRecDepth 100000 in
theorem Pt.mul_succ (n : Nat) (p : Pt C) : Pt.mul (n + 1) p = (Pt.mul n p).add p := rfl
set_option maxRecDepth 100000 in
theorem Pt.mul_one (p : Pt C) : Pt.mul 1 p = p := Pt.zero_add p
set_option maxRecDepth 100000 in
theorem Pt.mul_add (m n : Nat) (p : Pt C) : Pt.mul (m + n) p = (Pt.mul m p).add (Pt.mul n p) := by
  induction n with
  | zero => exact (Pt.add_zero _).symm
  | succ n ih => rw [← Nat.add_assoc, Pt.mul_succ, ih, Pt.mul_succ, Pt.add_assoc]
set_option maxRecDepth 100000 in
theorem Pt.mul_mul (m n : Nat) (p : Pt C) : Pt.mul m (Pt.mul n p) = Pt.mul (m * n) p := by
  induction m with
  | zero => rw [Nat.zero_mul]; rfl
  | succ m ih => rw [Pt.mul_succ, ih, Nat.succ_mul, Pt.mul_add]
set_option maxRecDepth 100000 in
theorem Pt.mul_of_zero (n : Nat) : Pt.mul n (Pt.zero : Pt C) = Pt.zero := by
  induction n with
  | zero => rfl
  | succ n ih => rw [Pt.mul_succ, ih, Pt.zero_add]
set_option maxRecDepth 100000 in
theorem Pt.add_swap (a b c d : Pt C) : (a.add b).add (c.add d) = (a.add c).add (b.add d) := by
  rw [Pt.add_assoc, Pt.add_assoc, ← Pt.add_assoc b c d, Pt.add_comm b c, Pt.add_assoc]
set_option maxRecDepth 100000 in
theorem Pt.mul_dist (n : Nat) (p q : Pt C) : Pt.mul n (p.add q) = (Pt.mul n p).add (Pt.mul n q) := by
  induction n with
  | zero => exact (Pt.zero_add _).symm
  | succ n ih => rw [Pt.mul_succ, ih, Pt.mul_succ, Pt.mul_succ, Pt.add_swap]
set_option maxRecDepth 100000 in
/-- Where the order times a point is the zero point, multiples hang on the number modulo the order alone. -/
theorem Pt.mul_mod (L : Nat) (p : Pt C) (h : Pt.mul L p = Pt.zero) (n : Nat) : Pt.mul (n % L) p = Pt.mul n p := by
  have e : n = n % L + L * (n / L) := (Nat.mod_add_div n L).symm
  have e2 : Pt.mul n p = (Pt.mul (n % L) p).add (Pt.mul (L * (n / L)) p) := by rw [← Pt.mul_add, ← e]
  rw [e2, Nat.mul_comm, ← Pt.mul_mul, h, Pt.mul_of_zero, Pt.add_zero]
set_option maxRecDepth 100000 in
theorem Pt.add_left {a b c : Pt C} (h : a.add b = a.add c) : b = c := by
  have h2 : (a.neg.add a).add b = (a.neg.add a).add c := by rw [Pt.add_assoc, h, Pt.add_assoc]
  rwa [Pt.neg_add, Pt.zero_add, Pt.zero_add] at h2
end Go.Proofs.YtceljjnohjnepaaDoor.EG

namespace Go.Proofs.YtceljjnohjnepaaDoor
open NT

set_option maxRecDepth 100000 in
theorem P_pos : 0 < NT.P := by decide
instance : NeZero NT.P := ⟨by decide⟩
abbrev FP := Fin NT.P
def dN : Nat := 37095705934669439343138083508754565189542113879843219016388785533085940283555
def iN : Nat := 19681161376707505956807079304988542015446066515923890162744021073123829784752
def fp (n : Nat) : FP := Fin.ofNat NT.P n
set_option maxRecDepth 100000 in
theorem fp_val (n : Nat) : (fp n).val = n % NT.P := rfl
set_option maxRecDepth 100000 in
theorem fp_of (x : FP) : fp x.val = x := by
  apply Fin.ext; rw [fp_val, Nat.mod_eq_of_lt x.isLt]
set_option maxRecDepth 100000 in
theorem fp_mod (n : Nat) : fp (n % NT.P) = fp n := by apply Fin.ext; rw [fp_val, fp_val, Nat.mod_mod]
set_option maxRecDepth 100000 in
theorem fp_add (a b : Nat) : fp (a + b) = fp a + fp b := by
  apply Fin.ext; rw [Fin.val_add, fp_val, fp_val, fp_val, ← Nat.add_mod]
set_option maxRecDepth 100000 in
theorem fp_mul (a b : Nat) : fp (a * b) = fp a * fp b := by
  apply Fin.ext; rw [Fin.val_mul, fp_val, fp_val, fp_val, ← Nat.mul_mod]
set_option maxRecDepth 100000 in
theorem fp_eq {a b : Nat} : fp a = fp b ↔ a % NT.P = b % NT.P := ⟨fun h => congrArg Fin.val h, fun h => Fin.ext h⟩
set_option maxRecDepth 100000 in
theorem pow_P (x : Nat) (h0 : 0 < x) (h1 : x < NT.P) : x ^ (NT.P - 1) % NT.P = 1 := by
  obtain ⟨k, _, hk⟩ := P_log x h0 h1
  rw [← hk, ← Nat.pow_mod, ← Nat.pow_mul, Nat.mul_comm, Nat.pow_mul, Nat.pow_mod, P_one, Nat.one_pow]
  decide
def fpow (x : FP) (n : Nat) : FP := fp (x.val ^ n)
/-- The inverse: the power P - 2. -/
def finv (x : FP) : FP := fp (x.val ^ (NT.P - 2))
set_option maxRecDepth 100000 in
theorem finv_mul (x : FP) (h : x ≠ 0) : x * finv x = 1 := by
  have h0 : 0 < x.val := Nat.pos_of_ne_zero fun e => h (Fin.ext e)
  have h1 := pow_P x.val h0 x.isLt
  unfold finv
  rw [← fp_of x, fp_val, Nat.mod_eq_of_lt x.isLt, ← fp_mul, ← Nat.pow_succ']
  have e : (NT.P - 2).succ = NT.P - 1 := by decide
  rw [e]
  apply Fin.ext
  rw [fp_val, h1]
  rfl
set_option maxRecDepth 100000 in
theorem d_half : dN ^ ((NT.P - 1) / 2) % NT.P = NT.P - 1 := by
  rw [← powm_eq 256 dN ((NT.P - 1) / 2) NT.P (by decide +kernel)]
  decide +kernel
set_option maxRecDepth 100000 in
theorem d_nsq (x : FP) : x * x ≠ fp dN := by
  intro h
  have hv : (x.val * x.val) % NT.P = dN := by
    have := congrArg Fin.val h
    rw [Fin.val_mul, fp_val] at this
    rw [this]; decide +kernel
  have h0 : 0 < x.val := Nat.pos_of_ne_zero fun e => by rw [e] at hv; revert hv; decide +kernel
  have h1 := pow_P x.val h0 x.isLt
  have h2 := d_half
  rw [← hv, ← Nat.pow_mod, ← Nat.pow_two, ← Nat.pow_mul, show 2 * ((NT.P - 1) / 2) = NT.P - 1 by decide +kernel, h1] at h2
  revert h2
  decide +kernel
/-- The curve. -/
def cv : EG.Crv NT.P where
  D := fp dN
  inv := finv
  i := fp iN
  hinv := finv_mul
  two := by intro h; have := congrArg Fin.val h; revert this; decide +kernel
  one := by intro h; have := congrArg Fin.val h; revert this; decide +kernel
  hi := by apply Fin.ext; decide +kernel
  nsq := d_nsq

end Go.Proofs.YtceljjnohjnepaaDoor

namespace Go.Proofs.YtceljjnohjnepaaDoor.EG

section
variable {P : Nat} [NeZero P] {C : Crv P}
/-- X, Y, Z, T are a point's: x and y by Z, T both multiplied. -/
structure Ext (X Y Z T : Fin P) (p : Pt C) : Prop where
  z : Z ≠ 0
  hx : X = p.x * Z
  hy : Y = p.y * Z
  ht : T = p.x * p.y * Z
set_option maxRecDepth 100000 in
theorem Ext.add {X Y Z T X' Y' Z' T' : Fin P} {p q : Pt C} (h : Ext X Y Z T p) (k : Ext X' Y' Z' T' q) {a b c e0 : Fin P}
    (ha : a = (Y - X) * (Y' - X')) (hb : b = (Y + X) * (Y' + X')) (hc : c = T * T' * (C.D + C.D)) (he : e0 = Z * Z') :
    Ext ((b - a) * ((e0 + e0) - c)) (((e0 + e0) + c) * (b + a)) (((e0 + e0) - c) * ((e0 + e0) + c)) ((b - a) * (b + a)) (p.add q) := by
  obtain ⟨z1, hx1, hy1, ht1⟩ := h
  obtain ⟨z2, hx2, hy2, ht2⟩ := k
  have ex := p.ax_spec q
  have ey := p.ay_spec q
  have n1 := p.den1 q
  have n2 := p.den2 q
  have hX : (p.add q).x = p.ax q := rfl
  have hY : (p.add q).y = p.ay q := rfl
  have hm : p.m q = C.D * p.x * q.x * p.y * q.y := rfl
  have two := C.two
  have eB : b - a = (2 * (Z * Z')) * (p.x * q.y + p.y * q.x) := by rw [ha, hb, hx1, hy1, hx2, hy2]; grind
  have eH : b + a = (2 * (Z * Z')) * (p.y * q.y + p.x * q.x) := by rw [ha, hb, hx1, hy1, hx2, hy2]; grind
  have eF : (e0 + e0) - c = (2 * (Z * Z')) * (1 - p.m q) := by rw [he, hc, ht1, ht2, hm]; grind
  have eG : (e0 + e0) + c = (2 * (Z * Z')) * (1 + p.m q) := by rw [he, hc, ht1, ht2, hm]; grind
  have nk : (2 * (Z * Z')) ≠ 0 := C.mul_ne two (C.mul_ne z1 z2)
  rw [eB, eH, eF, eG]
  clear ha hb hc he eB eH eF eG hx1 hy1 ht1 hx2 hy2 ht2 hm
  rw [← ex, ← ey]
  generalize 2 * (Z * Z') = k at *
  generalize p.m q = m at *
  refine ⟨C.mul_ne (C.mul_ne nk n2) (C.mul_ne nk n1), ?_, ?_, ?_⟩
  · rw [hX]; grind
  · rw [hY]; grind
  · rw [hX, hY]; grind
set_option maxRecDepth 100000 in
theorem Ext.twice {X Y Z T : Fin P} {p : Pt C} (h : Ext X Y Z T p) {a b c s : Fin P} (ha : a = X * X) (hb : b = Y * Y) (hc : c = Z * Z) (hs : s = X + Y) :
    Ext (((a + b) - s * s) * ((c + c) + (a - b))) ((a - b) * (a + b)) (((c + c) + (a - b)) * (a - b)) (((a + b) - s * s) * (a + b)) (p.add p) := by
  obtain ⟨z1, hx1, hy1, ht1⟩ := h
  have ex := p.ax_spec p
  have ey := p.ay_spec p
  have n1 := p.den1 p
  have n2 := p.den2 p
  have hX : (p.add p).x = p.ax p := rfl
  have hY : (p.add p).y = p.ay p := rfl
  have hm : p.m p = C.D * p.x * p.x * p.y * p.y := rfl
  have on := p.on
  unfold onC at on
  have e1 : (a + b) - s * s = (-(Z * Z)) * (p.x * p.y + p.y * p.x) := by rw [ha, hb, hs, hx1, hy1]; grind
  have e2 : a + b = (Z * Z) * (p.y * p.y + p.x * p.x) := by rw [ha, hb, hx1, hy1]; grind
  have e3 : a - b = (-(Z * Z)) * (1 + p.m p) := by
    rw [ha, hb, hx1, hy1, hm]
    have : 1 + C.D * p.x * p.x * p.y * p.y = p.y * p.y - p.x * p.x := by rw [on]; grind
    rw [this]; grind
  have e4 : (c + c) + (a - b) = (Z * Z) * (1 - p.m p) := by
    rw [e3, hc]; grind
  have nk : Z * Z ≠ 0 := C.mul_ne z1 z1
  rw [e1, e4, e2, e3]
  clear ha hb hc hs e1 e2 e3 e4 hx1 hy1 ht1 hm on
  rw [← ex, ← ey]
  generalize Z * Z = k at *
  generalize p.m p = m at *
  have nk' : -k ≠ 0 := fun e => nk (by grind)
  refine ⟨C.mul_ne (C.mul_ne nk n2) (C.mul_ne nk' n1), ?_, ?_, ?_⟩
  · rw [hX]; grind
  · rw [hY]; grind
  · rw [hX, hY]; grind
/-- X, Y, Z are a point's, as the document has them. -/
structure Prj (X Y Z : Fin P) (p : Pt C) : Prop where
  z : Z ≠ 0
  hx : X = p.x * Z
  hy : Y = p.y * Z
set_option maxRecDepth 100000 in
theorem Prj.add {X Y Z X' Y' Z' : Fin P} {p q : Pt C} (h : Prj X Y Z p) (k : Prj X' Y' Z' q) {a c d e : Fin P} (ha : a = Z * Z') (hc : c = X * X') (hd : d = Y * Y') (he : e = C.D * c * d) :
    Prj (a * (a * a - e) * ((X + Y) * (X' + Y') - c - d)) (a * (a * a + e) * (d + c)) ((a * a - e) * (a * a + e)) (p.add q) := by
  obtain ⟨z1, hx1, hy1⟩ := h
  obtain ⟨z2, hx2, hy2⟩ := k
  have ex := p.ax_spec q
  have ey := p.ay_spec q
  have n1 := p.den1 q
  have n2 := p.den2 q
  have hX : (p.add q).x = p.ax q := rfl
  have hY : (p.add q).y = p.ay q := rfl
  have hm : p.m q = C.D * p.x * q.x * p.y * q.y := rfl
  have na : a ≠ 0 := by rw [ha]; exact C.mul_ne z1 z2
  have eH : (X + Y) * (X' + Y') - c - d = a * (p.x * q.y + p.y * q.x) := by rw [hc, hd, ha, hx1, hy1, hx2, hy2]; grind
  have eS : d + c = a * (p.y * q.y + p.x * q.x) := by rw [hc, hd, ha, hx1, hy1, hx2, hy2]; grind
  have eE : e = a * a * p.m q := by rw [he, hc, hd, ha, hm, hx1, hy1, hx2, hy2]; grind
  have eF : a * a - e = a * a * (1 - p.m q) := by rw [eE]; grind
  have eG : a * a + e = a * a * (1 + p.m q) := by rw [eE]; grind
  rw [eH, eS, eF, eG]
  clear ha hc hd he eE eH eS eF eG hx1 hy1 hx2 hy2 hm
  rw [← ex, ← ey]
  generalize p.m q = m at *
  refine ⟨C.mul_ne (C.mul_ne (C.mul_ne na na) n2) (C.mul_ne (C.mul_ne na na) n1), ?_, ?_⟩
  · rw [hX]; grind
  · rw [hY]; grind
set_option maxRecDepth 100000 in
theorem Ext.zero : Ext (0 : Fin P) 1 1 0 (Pt.zero : Pt C) := ⟨C.one, by simp only [Pt.zero]; grind, by simp only [Pt.zero]; grind, by simp only [Pt.zero]; grind⟩
set_option maxRecDepth 100000 in
theorem Prj.zero : Prj (0 : Fin P) 1 1 (Pt.zero : Pt C) := ⟨C.one, by simp only [Pt.zero]; grind, by simp only [Pt.zero]; grind⟩
set_option maxRecDepth 100000 in
theorem Ext.prj {X Y Z T : Fin P} {p : Pt C} (h : Ext X Y Z T p) : Prj X Y Z p := ⟨h.z, h.hx, h.hy⟩
set_option maxRecDepth 100000 in
/-- Two points are the same, told by their coordinates. -/
theorem Prj.same {X Y Z X' Y' Z' : Fin P} {p q : Pt C} (h : Prj X Y Z p) (k : Prj X' Y' Z' q) : (X * Z' = X' * Z ∧ Y * Z' = Y' * Z) ↔ p = q := by
  constructor
  · rintro ⟨h1, h2⟩
    have hn := C.mul_ne h.z k.z
    refine Pt.ext' (C.cancel hn ?_) (C.cancel hn ?_)
    · rw [h.hx, k.hx] at h1; grind
    · rw [h.hy, k.hy] at h2; grind
  · rintro rfl
    rw [h.hx, h.hy, k.hx, k.hy]
    constructor <;> grind
set_option maxRecDepth 100000 in
theorem Prj.coords {X Y Z : Fin P} {p : Pt C} (h : Prj X Y Z p) : X * C.inv Z = p.x ∧ Y * C.inv Z = p.y := by
  have := C.hinv Z h.z
  rw [h.hx, h.hy]
  constructor <;> grind
end

end Go.Proofs.YtceljjnohjnepaaDoor.EG

namespace Go.Proofs.YtceljjnohjnepaaDoor
open NT EG

def bxN : Nat := 15112221349535400772501151409588531511454012693041857206046113283949847762202
def byN : Nat := 46316835694926478169428394003475163141307993866256225615783033603165251855960
set_option maxRecDepth 100000 in
theorem base_on : onC cv.D (fp bxN) (fp byN) := by
  unfold onC
  apply Fin.ext
  show ((fp byN * fp byN - fp bxN * fp bxN : FP)).val = ((1 : FP) + fp dN * (fp bxN * fp bxN) * (fp byN * fp byN)).val
  decide +kernel
/-- The base point. -/
def bP : Pt cv := ⟨fp bxN, fp byN, base_on⟩
/-- Sums, by numbers. -/
structure T3 where
  x : Nat
  y : Nat
  z : Nat
def T3.is (t : T3) (p : Pt cv) : Prop := Prj (fp t.x) (fp t.y) (fp t.z) p
def subP (a b : Nat) : Nat := (a + (NT.P - b % NT.P)) % NT.P
set_option maxRecDepth 100000 in
theorem fp_sub (a b : Nat) : fp (subP a b) = fp a - fp b := by
  unfold subP
  rw [fp_mod]
  have hb : b % NT.P < NT.P := Nat.mod_lt _ (by decide)
  have h : fp (a + (NT.P - b % NT.P)) + fp b = fp a := by
    rw [← fp_mod b, ← fp_add, fp_eq, Nat.add_assoc, Nat.sub_add_cancel (Nat.le_of_lt hb), Nat.add_mod_right]
  generalize fp (a + (NT.P - b % NT.P)) = u at *
  generalize fp b = v at *
  generalize fp a = w at *
  clear hb
  grind
def T3.add (s t : T3) : T3 :=
  let a := s.z * t.z % NT.P
  let c := s.x * t.x % NT.P
  let d := s.y * t.y % NT.P
  let e := dN * c % NT.P * d % NT.P
  let b := a * a % NT.P
  let f := subP b e
  let g := (b + e) % NT.P
  let h := subP (subP ((s.x + s.y) * (t.x + t.y) % NT.P) c) d
  ⟨a * f % NT.P * h % NT.P, a * g % NT.P * (d + c) % NT.P, f * g % NT.P⟩
set_option maxRecDepth 100000 in
theorem T3.add_is {s t : T3} {p q : Pt cv} (h : s.is p) (k : t.is q) : (s.add t).is (p.add q) := by
  have := Prj.add h k (a := fp (s.z * t.z % NT.P)) (c := fp (s.x * t.x % NT.P)) (d := fp (s.y * t.y % NT.P)) (e := cv.D * fp (s.x * t.x % NT.P) * fp (s.y * t.y % NT.P)) (by rw [fp_mod, fp_mul]) (by rw [fp_mod, fp_mul]) (by rw [fp_mod, fp_mul]) rfl
  unfold T3.is T3.add
  simp only [fp_mod, fp_mul, fp_sub, fp_add] at this ⊢
  exact this
def T3.zero : T3 := ⟨0, 1, 1⟩
set_option maxRecDepth 100000 in
theorem T3.zero_is : T3.zero.is Pt.zero := Prj.zero
def T3.mul : Nat → Nat → T3 → T3
  | 0, _, _ => T3.zero
  | f + 1, n, t =>
    let q := T3.mul f (n / 2) t
    let r := q.add q
    if n % 2 = 1 then r.add t else r
set_option maxRecDepth 100000 in
theorem T3.mul_is {t : T3} {p : Pt cv} (h : t.is p) : ∀ f n, n < 2 ^ f → (T3.mul f n t).is (Pt.mul n p)
  | 0, n, hn => by
    have : n = 0 := by simpa using hn
    subst this
    exact T3.zero_is
  | f + 1, n, hn => by
    have ih := T3.mul_is h f (n / 2) (by rw [Nat.pow_succ] at hn; omega)
    have h2 := T3.add_is ih ih
    rw [← Pt.mul_add] at h2
    unfold T3.mul
    simp only []
    split
    · rename_i h1
      have h3 := T3.add_is h2 h
      rw [← Pt.mul_succ] at h3
      rwa [show n / 2 + n / 2 + 1 = n by omega] at h3
    · rename_i h1
      rwa [show n / 2 + n / 2 = n by omega] at h2
/-- The order of the base point. -/
def oL : Nat := 7237005577332262213973186563042994240857116359379907606001950938285454250989
set_option maxRecDepth 100000 in
theorem base_run : (let r := T3.mul 253 oL ⟨bxN, byN, 1⟩; decide (r.x = 0) && decide (r.y = r.z)) = true := by decide +kernel
set_option maxRecDepth 100000 in
theorem base_order : Pt.mul oL bP = Pt.zero := by
  have h0 : T3.is ⟨bxN, byN, 1⟩ bP := ⟨cv.one, by show fp bxN = fp bxN * fp 1; rw [← fp_mul, Nat.mul_one], by show fp byN = fp byN * fp 1; rw [← fp_mul, Nat.mul_one]⟩
  have h := T3.mul_is h0 253 oL (by decide +kernel)
  have hr := base_run
  simp only [Bool.and_eq_true, decide_eq_true_eq] at hr
  refine (Prj.same h T3.zero_is).1 ⟨?_, ?_⟩
  · rw [hr.1]
    show fp 0 * fp 1 = fp 0 * _
    rw [← fp_mul, ← fp_of (fp (T3.mul 253 oL _).z), ← fp_mul, Nat.zero_mul, Nat.zero_mul]
  · rw [hr.2]
    show fp _ * fp 1 = fp 1 * _
    rw [← fp_mul, ← fp_mul, Nat.mul_comm]

end Go.Proofs.YtceljjnohjnepaaDoor

namespace Go.Proofs.YtceljjnohjnepaaDoor.EG

section
variable {P : Nat} [NeZero P] {C : Crv P}
/-- X by Z is a point's first coordinate in Montgomery's form (the zero point: Z is 0). -/
structure Lad (X Z : Fin P) (p : Pt C) : Prop where
  k : X + Z ≠ 0
  h : X - Z = (X + Z) * p.y
set_option maxRecDepth 100000 in
theorem Lad.twice_key (c d x y : Fin P) (hc : (c + 1) * d = -c) (on : y * y - x * x = 1 + d * (x * x) * (y * y)) :
    (y * y - (1 - y * y) * (1 + c * (1 - y * y))) * (1 - d * x * x * y * y) = (y * y + (1 - y * y) * (1 + c * (1 - y * y))) * (y * y + x * x) := by
  grind
set_option maxRecDepth 100000 in
theorem Lad.sum_key (d x1 y1 x2 y2 : Fin P) (h1 : onC d x1 y1) (h2 : onC d x2 y2) :
    let m := d * x1 * x2 * y1 * y2
    (y1 + y2) * (y1 + y2) * (1 - m - y1 * y2 - x1 * x2) * (1 + m - y1 * y2 + x1 * x2) = (y1 - y2) * (y1 - y2) * (1 - m + y1 * y2 + x1 * x2) * (1 + m + y1 * y2 - x1 * x2) := by
  unfold onC at h1 h2
  intro m
  grind
set_option maxRecDepth 100000 in
theorem lin1 {m s a b : Fin P} (h : (1 - -m) * s = a + b) : (1 + m) * (1 - s) = 1 + m - a - b := by grind
set_option maxRecDepth 100000 in
theorem lin2 {m s a b : Fin P} (h : (1 - -m) * s = a + b) : (1 + m) * (1 + s) = 1 + m + a + b := by grind
set_option maxRecDepth 100000 in
theorem lin3 {m s a b : Fin P} (h : (1 - m) * s = a + b) : (1 - m) * (1 - s) = 1 - m - a - b := by grind
set_option maxRecDepth 100000 in
theorem lin4 {m s a b : Fin P} (h : (1 - m) * s = a + b) : (1 - m) * (1 + s) = 1 - m + a + b := by grind
set_option maxRecDepth 100000 in
theorem lin5 {a b x : Fin P} : a - b - -x = a - b + x := by grind
set_option maxRecDepth 100000 in
theorem Crv.half (C : Crv P) {a : Fin P} (h : a + a = 0) : a = 0 := (C.mul_zero (show (2 : Fin P) * a = 0 by grind)).resolve_left C.two
set_option maxRecDepth 100000 in
theorem Lad.twice {X Z c : Fin P} {p : Pt C} (h : Lad X Z p) (hc : (c + 1) * C.D = -c) (hc1 : c + 1 ≠ 0) {ss dd e : Fin P} (hs : ss = (X + Z) * (X + Z)) (hd : dd = (X - Z) * (X - Z)) (he : e = ss - dd) :
    Lad (ss * dd) (e * (ss + c * e)) (p.add p) := by
  obtain ⟨hk, hy⟩ := h
  have ey := p.ay_spec p
  have n2 := p.den2 p
  have hY : (p.add p).y = p.ay p := rfl
  have hm : p.m p = C.D * p.x * p.x * p.y * p.y := rfl
  have key := Lad.twice_key c C.D p.x p.y hc p.on
  rw [hm] at ey n2
  rw [hy] at hd
  rw [← hY] at ey
  generalize hr : (p.add p).y = r at *
  generalize X + Z = k at *
  generalize p.y = y at *
  generalize p.x = x at *
  generalize C.D = D at *
  have hk4 : k * k * (k * k) ≠ 0 := C.mul_ne (C.mul_ne hk hk) (C.mul_ne hk hk)
  have e1 : ss * dd = k * k * (k * k) * (y * y) := by rw [hd, hs]; grind
  have e2 : e * (ss + c * e) = k * k * (k * k) * ((1 - y * y) * (1 + c * (1 - y * y))) := by rw [he, hd, hs]; grind
  rw [e1, e2]
  clear e1 e2 hs hd he hY hm hy
  generalize k * k * (k * k) = K at *
  generalize hq : (1 - y * y) * (1 + c * (1 - y * y)) = Q at *
  have main : K * (y * y) - K * Q = (K * (y * y) + K * Q) * r := by
    refine C.cancel n2 ?_
    have e3 : (1 - D * x * x * y * y) * ((K * (y * y) + K * Q) * r) = K * ((y * y + Q) * ((1 - D * x * x * y * y) * r)) := by clear key ey hq; grind
    have e4 : (1 - D * x * x * y * y) * (K * (y * y) - K * Q) = K * ((y * y - Q) * (1 - D * x * x * y * y)) := by clear key ey hq; grind
    rw [e3, e4, ey, key]
  refine ⟨fun h0 => ?_, by rw [← hr] at main; exact main⟩
  rw [h0] at main
  have h1 : K * (y * y) + K * (y * y) = 0 := by
    have : K * (y * y) - K * Q = 0 := by rw [main]; grind
    clear main key ey hq
    grind
  have h2 := (C.mul_zero (C.half h1)).resolve_left hk4
  have h3 : y = 0 := (C.mul_zero h2).elim id id
  rw [h3] at hq h0
  have h4 : K * (1 + c) = 0 := by
    rw [← hq] at h0
    clear main key ey hq h1 h2
    grind
  exact (C.mul_zero h4).elim hk4 (fun e => hc1 (by grind))
set_option maxRecDepth 100000 in
theorem Lad.sum {X1 Z1 X2 Z2 u : Fin P} {p q p0 : Pt C} (h1 : Lad X1 Z1 p) (h2 : Lad X2 Z2 q) (h0 : Lad u 1 p0) (hu : u ≠ 0) (hq : q = p.add p0) {a b : Fin P} (ha : a = (X1 - Z1) * (X2 + Z2)) (hb : b = (X1 + Z1) * (X2 - Z2)) :
    Lad ((a + b) * (a + b)) (u * ((a - b) * (a - b))) (p.add q) := by
  obtain ⟨k1, y1⟩ := h1
  obtain ⟨k2, y2⟩ := h2
  obtain ⟨k0, y0⟩ := h0
  have hp0 : p0 = p.neg.add q := by rw [hq, ← Pt.add_assoc, Pt.neg_add, Pt.zero_add]
  have er := p.ay_spec q
  have e0 := p.neg.ay_spec q
  have n2 := p.den2 q
  have n0 := p.neg.den2 q
  have hR : (p.add q).y = p.ay q := rfl
  have h00 : p0.y = p.neg.ay q := by rw [hp0]; rfl
  have hm : p.m q = C.D * p.x * q.x * p.y * q.y := rfl
  have hm0 : p.neg.m q = -(p.m q) := by unfold Pt.m Pt.neg; grind
  have key := Lad.sum_key C.D p.x p.y q.x q.y p.on q.on
  have on1 := p.on
  have on2 := q.on
  simp only [] at key
  rw [← hm] at key
  rw [← hR] at er
  rw [hm0, ← h00] at e0
  rw [hm0] at n0
  have nx : p.neg.x = -p.x := rfl
  have ny : p.neg.y = p.y := rfl
  rw [nx, ny] at e0
  have ea : a = (X1 + Z1) * (X2 + Z2) * p.y := by rw [ha, y1]; grind
  have eb : b = (X1 + Z1) * (X2 + Z2) * q.y := by rw [hb, y2]; grind
  have hK : (X1 + Z1) * (X2 + Z2) ≠ 0 := C.mul_ne k1 k2
  generalize (X1 + Z1) * (X2 + Z2) = K at *
  generalize hr : (p.add q).y = r at *
  generalize p0.y = s at *
  unfold onC at on1 on2
  generalize hmm : p.m q = m at *
  have hmz : p.y = 0 → m = 0 := fun h => by rw [hm, h]; grind
  clear hmm hm hm0 hR h00 nx ny ha hb hp0 hq y1 y2 k1 k2
  generalize p.x = x1 at *
  generalize p.y = v1 at *
  generalize q.x = x2 at *
  generalize q.y = v2 at *
  rw [ea, eb]
  clear ea eb
  -- u by the difference's coordinate
  have hs1 : (1 - s) * u = 1 + s := by clear key er e0; grind
  have ns : 1 - s ≠ 0 := by
    intro h
    have : (1 : Fin P) + 1 = 0 := by
      have h5 : s = 1 := by clear key er e0; grind
      rw [h5] at hs1
      clear key er e0 y0
      grind
    exact C.two (by grind)
  have f1 : (1 + m) * (1 - s) = 1 + m - v1 * v2 + x1 * x2 := (lin1 e0).trans (by clear key er e0 hs1 y0 on1 on2 hmz n0 n2 hu hK ns k0; grind)
  have f2 : (1 + m) * (1 + s) = 1 + m + v1 * v2 - x1 * x2 := (lin2 e0).trans (by clear key er e0 hs1 y0 on1 on2 hmz n0 n2 hu hK ns k0; grind)
  have f3 : (1 - m) * (1 - r) = 1 - m - v1 * v2 - x1 * x2 := lin3 er
  have f4 : (1 - m) * (1 + r) = 1 - m + v1 * v2 + x1 * x2 := lin4 er
  have n0' : 1 + m ≠ 0 := fun h => n0 (by clear key er e0 hs1 y0; grind)
  have main0 : (v1 + v2) * (v1 + v2) * (1 - r) = u * ((v1 - v2) * (v1 - v2)) * (1 + r) := by
    refine C.cancel (C.mul_ne (C.mul_ne n2 n0') ns) ?_
    have l1 : (1 - m) * (1 + m) * (1 - s) * ((v1 + v2) * (v1 + v2) * (1 - r)) = (v1 + v2) * (v1 + v2) * ((1 - m) * (1 - r)) * ((1 + m) * (1 - s)) := by clear key er e0 hs1 y0 f1 f2 f3 f4; grind
    have l2 : (1 - m) * (1 + m) * (1 - s) * (u * ((v1 - v2) * (v1 - v2)) * (1 + r)) = (v1 - v2) * (v1 - v2) * ((1 - m) * (1 + r)) * ((1 + m) * ((1 - s) * u)) := by clear key er e0 hs1 y0 f1 f2 f3 f4; grind
    rw [l1, l2, hs1, f1, f2, f3, f4, key]
  have main : (K * v1 + K * v2) * (K * v1 + K * v2) - u * ((K * v1 - K * v2) * (K * v1 - K * v2)) = ((K * v1 + K * v2) * (K * v1 + K * v2) + u * ((K * v1 - K * v2) * (K * v1 - K * v2))) * r := by
    clear key er e0 hs1 y0 f1 f2 f3 f4 on1 on2
    grind
  refine ⟨fun hz => ?_, by rw [hr]; exact main⟩
  rw [hz] at main
  have g1 : (K * v1 + K * v2) * (K * v1 + K * v2) = 0 := by
    refine C.half ?_
    clear key er e0 hs1 y0 f1 f2 f3 f4 on1 on2 main0
    grind
  have g2 : u * ((K * v1 - K * v2) * (K * v1 - K * v2)) = 0 := by
    clear key er e0 hs1 y0 f1 f2 f3 f4 on1 on2 main0
    grind
  have g3 : K * v1 + K * v2 = 0 := (C.mul_zero g1).elim id id
  have g4 : K * v1 - K * v2 = 0 := ((C.mul_zero g2).resolve_left hu |> C.mul_zero).elim id id
  have g5 : v1 = 0 := (C.mul_zero (C.half (show K * v1 + K * v1 = 0 by clear key er e0 hs1 y0 f1 f2 f3 f4 on1 on2 main main0 g1 g2; grind))).resolve_left hK
  have g6 : v2 = 0 := (C.mul_zero (C.half (show K * v2 + K * v2 = 0 by clear key er e0 hs1 y0 f1 f2 f3 f4 on1 on2 main main0 g1 g2; grind))).resolve_left hK
  have g7 := hmz g5
  rw [g5] at on1
  rw [g6] at on2
  rw [g5, g6, g7] at e0
  have e0' : s = -(x1 * x2) := by clear key er hs1 y0 f1 f2 f3 f4 main main0 g1 g2 g3 g4; grind
  have sq : (1 - s) * (1 + s) = 0 := by
    clear key er hs1 y0 f1 f2 f3 f4 main main0 g1 g2 g3 g4 e0 hmz
    grind
  have s1 := (C.mul_zero sq).resolve_left ns
  rw [s1] at hs1
  exact hu ((C.mul_zero hs1).resolve_left ns)
set_option maxRecDepth 100000 in
theorem Lad.zero : Lad (1 : Fin P) 0 (Pt.zero : Pt C) := ⟨fun h => C.one (by grind), by simp only [Pt.zero]; grind⟩
/-- The number by which a point is told. -/
def uOf (p : Pt C) : Fin P := (1 + p.y) * C.inv (1 - p.y)
set_option maxRecDepth 100000 in
theorem Lad.u (hi : C.inv 0 = 0) {X Z : Fin P} {p : Pt C} (h : Lad X Z p) : X * C.inv Z = uOf p := by
  obtain ⟨hk, hy⟩ := h
  unfold uOf
  by_cases h1 : 1 - p.y = 0
  · have hz : Z = 0 := by
      refine C.half ?_
      generalize p.y = y at *
      have : y = 1 := by grind
      rw [this] at hy
      grind
    rw [hz, h1, hi]
    grind
  · have hz : Z ≠ 0 := by
      intro h0
      rw [h0] at hy hk
      have hx : X ≠ 0 := fun e => hk (by rw [e]; grind)
      exact (C.mul_ne hx h1) (by generalize p.y = y at *; grind)
    have i1 := C.hinv _ h1
    have i2 := C.hinv _ hz
    refine C.cancel (C.mul_ne h1 hz) ?_
    generalize C.inv (1 - p.y) = v at *
    generalize C.inv Z = w at *
    generalize p.y = y at *
    have l1 : (1 - y) * Z * (X * w) = (1 - y) * X * (Z * w) := by clear i1 i2 hy; grind
    have l2 : (1 - y) * Z * ((1 + y) * v) = (1 + y) * Z * ((1 - y) * v) := by clear i1 i2 hy; grind
    rw [l1, l2, i1, i2]
    clear i1 i2 l1 l2
    grind
set_option maxRecDepth 100000 in
theorem Lad.of_u {p : Pt C} (h : 1 - p.y ≠ 0) : Lad (uOf p) 1 p := by
  have i1 := C.hinv _ h
  unfold uOf
  generalize C.inv (1 - p.y) = v at *
  generalize hy : p.y = y at *
  have e : (1 + y) * v + 1 = v + v := by grind
  refine ⟨fun h0 => ?_, by rw [hy]; clear hy h; grind⟩
  rw [e] at h0
  have := C.half h0
  rw [this] at i1
  exact C.one (by grind)
end

end Go.Proofs.YtceljjnohjnepaaDoor.EG

namespace Go.Proofs.YtceljjnohjnepaaDoor
open EG

set_option maxRecDepth 100000 in
theorem pP_eq : NT.P = pP := rfl
set_option maxRecDepth 100000 in
theorem fpm (a b : Nat) : fp (mulN a b) = fp a * fp b := by rw [← fp_mul, fp_eq]; exact mul_mod a b
set_option maxRecDepth 100000 in
theorem fpa (a b : Nat) : fp (addN a b) = fp a + fp b := by rw [← fp_add, fp_eq]; exact add_mod a b
set_option maxRecDepth 100000 in
theorem fps {a b : Nat} (ha : a < p2) (hb : b < p2) : fp (subN a b) = fp a - fp b := by
  have h : fp (subN a b) + fp b = fp a := by rw [← fp_add, fp_eq]; exact sub_mod ha hb
  rw [← h]
  grind
set_option maxRecDepth 100000 in
theorem fp_same {a b : Nat} : fp a = fp b ↔ a % pP = b % pP := fp_eq
set_option maxRecDepth 100000 in
theorem fp0 : fp 0 = 0 := rfl
set_option maxRecDepth 100000 in
theorem fp1 : fp 1 = 1 := rfl
set_option maxRecDepth 100000 in
theorem cvD : cv.D = fp dN := rfl
set_option maxRecDepth 100000 in
theorem cvinv : cv.inv = finv := rfl

/-- The four numbers of a point. -/
structure P4 where
  x : Nat
  y : Nat
  z : Nat
  t : Nat
structure P4.bd (s : P4) : Prop where
  x : s.x < p2
  y : s.y < p2
  z : s.z < p2
  t : s.t < p2
structure P4.ok (s : P4) (p : Pt cv) : Prop where
  bd : s.bd
  ext : Ext (fp s.x) (fp s.y) (fp s.z) (fp s.t) p
set_option maxRecDepth 100000 in
theorem dN_lt : dN < p2 := by decide +kernel
/-- Four products, of both coordinates' parts. -/
def made4 (e f g h : Nat) : P4 := ⟨mulN e f, mulN g h, mulN f g, mulN e h⟩
set_option maxRecDepth 100000 in
theorem made4_bd {e f g h : Nat} (he : e < p2) (hf : f < p2) (hg : g < p2) (hh : h < p2) : (made4 e f g h).bd := ⟨mul_lt he hf, mul_lt hg hh, mul_lt hf hg, mul_lt he hh⟩
namespace P4
def aA (s u : P4) : Nat := mulN (subN s.y s.x) (subN u.y u.x)
def aB (s u : P4) : Nat := mulN (addN s.y s.x) (addN u.y u.x)
def aC (s u : P4) : Nat := mulN (mulN s.t u.t) (addN dN dN)
def aE (s u : P4) : Nat := addN (mulN s.z u.z) (mulN s.z u.z)
def add (s u : P4) : P4 := made4 (subN (aB s u) (aA s u)) (subN (aE s u) (aC s u)) (addN (aE s u) (aC s u)) (addN (aB s u) (aA s u))
def tH (s : P4) : Nat := addN (mulN s.x s.x) (mulN s.y s.y)
def tS (s : P4) : Nat := addN s.x s.y
def tG (s : P4) : Nat := subN (mulN s.x s.x) (mulN s.y s.y)
def tC (s : P4) : Nat := mulN s.z s.z
def twice (s : P4) : P4 := made4 (subN s.tH (mulN s.tS s.tS)) (addN (addN s.tC s.tC) s.tG) s.tG s.tH
def zero : P4 := ⟨0, 1, 1, 0⟩
def same (s u : P4) : Bool := decide (mulN s.x u.z % pP = mulN u.x s.z % pP) && decide (mulN s.y u.z % pP = mulN u.y s.z % pP)
variable {s u : P4} {p q : Pt cv}
set_option maxRecDepth 100000 in
theorem bA (h : s.bd) (k : u.bd) : s.aA u < p2 := mul_lt (sub_lt h.y h.x) (sub_lt k.y k.x)
set_option maxRecDepth 100000 in
theorem bB (h : s.bd) (k : u.bd) : s.aB u < p2 := mul_lt (add_lt h.y h.x) (add_lt k.y k.x)
set_option maxRecDepth 100000 in
theorem bC (h : s.bd) (k : u.bd) : s.aC u < p2 := mul_lt (mul_lt h.t k.t) (add_lt dN_lt dN_lt)
set_option maxRecDepth 100000 in
theorem bE (h : s.bd) (k : u.bd) : s.aE u < p2 := add_lt (mul_lt h.z k.z) (mul_lt h.z k.z)
set_option maxRecDepth 100000 in
theorem bH (h : s.bd) : s.tH < p2 := add_lt (mul_lt h.x h.x) (mul_lt h.y h.y)
set_option maxRecDepth 100000 in
theorem bS (h : s.bd) : s.tS < p2 := add_lt h.x h.y
set_option maxRecDepth 100000 in
theorem bG (h : s.bd) : s.tG < p2 := sub_lt (mul_lt h.x h.x) (mul_lt h.y h.y)
set_option maxRecDepth 100000 in
theorem bT (h : s.bd) : s.tC < p2 := mul_lt h.z h.z
set_option maxRecDepth 100000 in
theorem add_bd (h : s.bd) (k : u.bd) : (s.add u).bd := made4_bd (sub_lt (bB h k) (bA h k)) (sub_lt (bE h k) (bC h k)) (add_lt (bE h k) (bC h k)) (add_lt (bB h k) (bA h k))
set_option maxRecDepth 100000 in
theorem twice_bd (h : s.bd) : s.twice.bd := made4_bd (sub_lt (bH h) (mul_lt (bS h) (bS h))) (add_lt (add_lt (bT h) (bT h)) (bG h)) (bG h) (bH h)
set_option maxRecDepth 100000 in
theorem add_ok (h : s.ok p) (k : u.ok q) : (s.add u).ok (p.add q) := by
  refine ⟨add_bd h.bd k.bd, ?_⟩
  have := Ext.add h.ext k.ext (a := fp (aA s u)) (b := fp (aB s u)) (c := fp (aC s u)) (e0 := fp (mulN s.z u.z))
    (by unfold aA; rw [fpm, fps h.bd.y h.bd.x, fps k.bd.y k.bd.x]) (by unfold aB; rw [fpm, fpa, fpa]) (by unfold aC; rw [fpm, fpm, fpa]; rfl) (fpm _ _)
  have e : fp (aE s u) = fp (mulN s.z u.z) + fp (mulN s.z u.z) := fpa _ _
  rw [← e] at this
  show Ext (fp (mulN _ _)) (fp (mulN _ _)) (fp (mulN _ _)) (fp (mulN _ _)) _
  rw [fpm, fpm, fpm, fpm, fpa, fpa, fps (bE h.bd k.bd) (bC h.bd k.bd), fps (bB h.bd k.bd) (bA h.bd k.bd)]
  exact this
set_option maxRecDepth 100000 in
theorem twice_ok (h : s.ok p) : s.twice.ok (p.add p) := by
  refine ⟨twice_bd h.bd, ?_⟩
  have := Ext.twice h.ext (a := fp (mulN s.x s.x)) (b := fp (mulN s.y s.y)) (c := fp s.tC) (s := fp s.tS) (fpm _ _) (fpm _ _) (fpm _ _) (fpa _ _)
  have e : fp s.tH = fp (mulN s.x s.x) + fp (mulN s.y s.y) := fpa _ _
  have e2 : fp s.tG = fp (mulN s.x s.x) - fp (mulN s.y s.y) := fps (mul_lt h.bd.x h.bd.x) (mul_lt h.bd.y h.bd.y)
  rw [← e, ← e2] at this
  show Ext (fp (mulN _ _)) (fp (mulN _ _)) (fp (mulN _ _)) (fp (mulN _ _)) _
  rw [fpm, fpm, fpm, fpm, fps (bH h.bd) (mul_lt (bS h.bd) (bS h.bd)), fpm, fpa, fpa]
  exact this
set_option maxRecDepth 100000 in
theorem zero_ok : zero.ok Pt.zero := ⟨⟨by decide, by decide, by decide, by decide⟩, Ext.zero⟩
set_option maxRecDepth 100000 in
theorem same_iff (h : s.ok p) (k : u.ok q) : s.same u = true ↔ p = q := by
  have := Prj.same h.ext.prj k.ext.prj
  unfold same
  rw [← fpm, ← fpm, ← fpm, ← fpm, fp_same, fp_same] at this
  rw [← Bool.decide_and, decide_eq_true_eq]
  exact this
end P4

set_option maxRecDepth 100000 in
/-- The inverse. -/
theorem rInv_nought : rInv 0 = 0 := by
  unfold rInv rPow
  rw [show (250 : Nat) = 249 + 1 from rfl, rOnes_nought]
  exact rBits_nought _ _
set_option maxRecDepth 100000 in
theorem fpi (a : Nat) : fp (invN a) = finv (fp a) := by
  have hv : (fp (invN a)).val = rInv (a % pP) := inv_mod a
  have ha : (fp a).val = a % pP := rfl
  by_cases h0 : a % pP = 0
  · have e1 : fp a = 0 := Fin.ext h0
    have e2 : fp (invN a) = 0 := by apply Fin.ext; rw [hv, h0, rInv_nought]; rfl
    rw [e1, e2]
    unfold finv
    rw [show (0 : FP).val = 0 from rfl, Nat.zero_pow (by decide)]
    rfl
  · have hne : fp a ≠ 0 := fun e => h0 (congrArg Fin.val e)
    refine cv.cancel hne ?_
    rw [finv_mul _ hne]
    apply Fin.ext
    rw [Fin.val_mul, hv, ha]
    exact inv_one (Nat.pos_of_ne_zero h0) (Nat.mod_lt _ (by decide))

end Go.Proofs.YtceljjnohjnepaaDoor

namespace Go.Proofs.YtceljjnohjnepaaDoor
open Go Go.RowKit
attribute [local go_sem ↓] exl_Elem exs_Elem exl_Pt exs_Pt
                 attribute [local go_sem] ldm_Elem str_Elem ldr_Pt str_Pt

set_option maxRecDepth 100000 in
theorem pt_zero : (#[.int .u64 0, .int .u64 0, .int .u64 0, .int .u64 0, .int .u64 0, .int .u64 0, .int .u64 0, .int .u64 0, .int .u64 0, .int .u64 0, .int .u64 0, .int .u64 0, .int .u64 0, .int .u64 0, .int .u64 0, .int .u64 0, .bool false] : Array Value) = pt 0 0 0 0 false := by
  unfold pt
  simp only [quad0]
  rfl
attribute [local go_sem] to_quad0 pt_zero

def buildRow (t : TypeId) (ps : Array (Nat × Value)) : Sem Value := Instr.build t ps
set_option maxRecDepth 100000 in
theorem exb_Pt {r : Operand → Value} {dst : Option Nat} {ps : Array (Nat × Operand)} {t : TypeId} {pos : String} {af : Array Edge} {g : Option (Nat × Bool)} : execOp r ⟨dst, .build 46 ps, t, pos, af, g⟩ = (do let v ← buildRow 46 (ps.map fun (i, x) => (i, r x)); pure (Next.value v)) := rfl
set_option maxRecDepth 100000 in
theorem bld_pt (x y z t : Nat) (b : Bool) (w : World) : (buildRow 46 #[(0, .agg (quad x)), (1, .agg (quad y)), (2, .agg (quad z)), (3, .agg (quad t)), (4, .bool b)]).run Tryd.prog w = .ok (.agg (pt x y z t b)) w :=
  run_build w 46 _ _ (by kernel_rfl)
set_option maxRecDepth 100000 in
theorem bld_pt0 (w : World) : (buildRow 46 #[]).run Tryd.prog w = .ok (.agg (pt 0 0 0 0 false)) w := run_build w 46 _ _ (by kernel_rfl)
attribute [local go_sem ↓] exb_Pt
attribute [local go_sem] bld_pt bld_pt0

set_option maxRecDepth 100000 in
set_option maxHeartbeats 1000000 in
theorem made_any (e f g h : Nat) (W : World) (he : e < p2) (hf : f < p2) (hg : g < p2) (hh : h < p2) :
    Calls Tryd.prog 41 #[.agg (quad e), .agg (quad f), .agg (quad g), .agg (quad h)] W fun r w' => r = .returned (.agg (pt (mulN e f) (mulN g h) (mulN f g) (mulN e h) true)) ∧ Below W.heap.size W w' := by
  have M1 := hid (fun w => mul_any e f w he hf)
  have M2 := hid (fun w => mul_any g h w hg hh)
  have M3 := hid (fun w => mul_any f g w hf hg)
  have M4 := hid (fun w => mul_any e h w he hh)
  go_enter Tryd.func41, Tryd.ntmps41
  go_upto_region 1 with (fail)
  obtain ⟨w1, hw1⟩ : ∃ w1, ((((W.alloc (.cells (quad e) 44)).alloc (.cells (quad f) 44)).alloc (.cells (quad g) 44)).alloc (.cells (quad h) 44)).alloc (.cells (pt 0 0 0 0 false) 46) = w1 := ⟨_, rfl⟩
  have kE := kept (show hget w1 (W.heap.size) = some (.cells (quad e) 44 (0, 0)) by rw [← hw1]; clear hw1; go_simp)
  have kF := kept (show hget w1 (W.heap.size + 1) = some (.cells (quad f) 44 (0, 0)) by rw [← hw1]; clear hw1; go_simp)
  have kG := kept (show hget w1 (W.heap.size + 1 + 1) = some (.cells (quad g) 44 (0, 0)) by rw [← hw1]; clear hw1; go_simp)
  have kH := kept (show hget w1 (W.heap.size + 1 + 1 + 1) = some (.cells (quad h) 44 (0, 0)) by rw [← hw1]; clear hw1; go_simp)
  have kR := kept (show hget w1 (W.heap.size + 1 + 1 + 1 + 1) = some (.cells (pt 0 0 0 0 false) 46 (0, 0)) by rw [← hw1]; clear hw1; go_simp)
  have b1 : Hid (Below W.heap.size W w1) := by rw [← hw1]; repeat (first | exact Below.refl _ _ | exact below_new _ | assumption | refine Below.drew ?_ | refine Below.drewN ?_ _ | refine below_alloc ?_ _ | refine below_blk' ?_ (by omega) _)
  rw [hw1]
  clear hw1
  try clear gE lE nE mE
  try clear jE
  have jE := kE.later
  obtain ⟨gE, lE, nE, mE⟩ := kE
  try clear gF lF nF mF
  try clear jF
  have jF := kF.later
  obtain ⟨gF, lF, nF, mF⟩ := kF
  try clear gG lG nG mG
  try clear jG
  have jG := kG.later
  obtain ⟨gG, lG, nG, mG⟩ := kG
  try clear gH lH nH mH
  try clear jH
  have jH := kH.later
  obtain ⟨gH, lH, nH, mH⟩ := kH
  try clear gR lR nR mR
  try clear jR
  have jR := kR.later
  obtain ⟨gR, lR, nR, mR⟩ := kR
  refine wp_region_later_tail 13 (by kernel_rfl) (by kernel_rfl) ?_
  simp only [List.take_succ_cons, List.take_zero, List.drop_succ_cons, List.drop_zero]
  repeat ((go_big_quiet_step ((go_at_call 27; first | with_reducible exact calls_later (M1.out _) | with_reducible exact calls_later (M2.out _) | with_reducible exact calls_later (M3.out _) | with_reducible exact calls_later (M4.out _)))))
  refine wpQuiet_nil ?_
  intro wL hwL
  obtain ⟨⟨w8, hL⟩, e8⟩ := hwL
  change wL = w8 at e8
  subst e8
  obtain ⟨gR, lR, nR, mR⟩ := kept (jR ⟨_, hL⟩)
  go_wp2_with fail
  refine bodyPost_ret (v := .agg (pt (mulN e f) (mulN g h) (mulN f g) (mulN e h) true)) (results_cell_row Tryd.results41 _ _ (W.heap.size + 1 + 1 + 1 + 1) 46 (pt (mulN e f) (mulN g h) (mulN f g) (mulN e h) true) (0, 0) _ (by rfl) (by rw [← hget_eq]; go_simp) Tryd.underlying46 rfl (by rw [info_Pt]; go_simp)) rfl ?_
  exact ⟨rfl, below_blk' (below_to b1.out hL) (by omega) _⟩

end Go.Proofs.YtceljjnohjnepaaDoor

namespace Go.Proofs.YtceljjnohjnepaaDoor
open Go Go.RowKit DG
attribute [local go_sem ↓] exl_Elem exs_Elem exl_Pt exs_Pt exb_Pt
                    attribute [local go_sem] ldm_Elem str_Elem ldr_Pt str_Pt to_quad0 pt_zero bld_pt bld_pt0

def dB : ByteArray := ⟨#[163, 120, 89, 19, 202, 77, 235, 117, 171, 216, 65, 65, 77, 10, 112, 0, 152, 232, 121, 119, 121, 64, 199, 140, 115, 254, 111, 43, 238, 108, 3, 82]⟩
set_option maxRecDepth 100000 in
theorem dB_nat : bytesNat dB.data.toList = dN := by decide +kernel

set_option maxRecDepth 100000 in
set_option maxHeartbeats 1000000 in
theorem d_any (W : World) : Calls Tryd.prog 36 #[] W fun r w' => r = .returned (.agg (quad dN)) ∧ Below W.heap.size W w' := by
  have O1 := fun w => Of_32 dB w rfl
  rw [dB_nat] at O1
  have HO := hid O1
  clear O1
  go_enter Tryd.func36, Tryd.ntmps36
  go_wp2_with fail
  refine (HO.out _).mono ?_
  rintro e w1 ⟨rfl, hb1⟩
  have k0 := Kept.on (kept (b := W.heap.size) (o := .cells (quad 0) 44 (0, 0)) (by go_simp)) hb1
  have b1 := hid (below_to (below_new _) hb1)
  obtain ⟨g0, l0, n0, m0⟩ := k0
  go_wp2_with fail
  refine bodyPost_ret (v := .agg (quad dN)) (results_cell_row Tryd.results36 _ _ (W.heap.size) 44 (quad dN) (0, 0) _ (by rfl) (by rw [← hget_eq]; go_simp) Tryd.underlying44 rfl (by rw [info_Elem]; go_simp)) rfl ?_
  exact ⟨rfl, below_blk' (below_to b1.out (below_new _)) (by omega) _⟩

set_option maxRecDepth 100000 in
set_option maxHeartbeats 1000000 in
theorem padd_no (x y z t x' y' z' t' : Nat) (i j : Bool) (W : World) (h : (i && j) = false) :
    Calls Tryd.prog 20 #[.agg (pt x y z t i), .agg (pt x' y' z' t' j)] W fun r w' => r = .returned (.agg (pt 0 0 0 0 false)) ∧ Below W.heap.size W w' := by
  go_enter Tryd.func20, Tryd.ntmps20
  go_upto_region 1 with (fail)
  obtain ⟨w1, hw1⟩ : ∃ w1, ((W.alloc (.cells (pt x y z t i) 46)).alloc (.cells (pt x' y' z' t' j) 46)).alloc (.cells (pt 0 0 0 0 false) 46) = w1 := ⟨_, rfl⟩
  have kA := kept (show hget w1 (W.heap.size) = some (.cells (pt x y z t i) 46 (0, 0)) by rw [← hw1]; clear hw1; go_simp)
  have kB := kept (show hget w1 (W.heap.size + 1) = some (.cells (pt x' y' z' t' j) 46 (0, 0)) by rw [← hw1]; clear hw1; go_simp)
  have kR := kept (show hget w1 (W.heap.size + 1 + 1) = some (.cells (pt 0 0 0 0 false) 46 (0, 0)) by rw [← hw1]; clear hw1; go_simp)
  have b1 : Hid (Below W.heap.size W w1) := by rw [← hw1]; repeat (first | exact Below.refl _ _ | exact below_new _ | assumption | refine Below.drew ?_ | refine Below.drewN ?_ _ | refine below_alloc ?_ _ | refine below_blk' ?_ (by omega) _)
  rw [hw1]
  clear hw1
  try clear gA lA nA mA
  try clear jA
  have jA := kA.later
  obtain ⟨gA, lA, nA, mA⟩ := kA
  try clear gB lB nB mB
  try clear jB
  have jB := kB.later
  obtain ⟨gB, lB, nB, mB⟩ := kB
  try clear gR lR nR mR
  try clear jR
  have jR := kR.later
  obtain ⟨gR, lR, nR, mR⟩ := kR
  have ci : w1.cell? ⟨W.heap.size, 16, none⟩ = some (.bool i) := (cell_at gA 16).trans (pt_is x y z t i)
  have cj : w1.cell? ⟨W.heap.size + 1, 16, none⟩ = some (.bool j) := (cell_at gB 16).trans (pt_is x' y' z' t' j)
  cases i
  · go_wp2_with fail
    refine bodyPost_ret (v := .agg (pt 0 0 0 0 false)) (results_cell_row Tryd.results20 _ _ (W.heap.size + 1 + 1) 46 (pt 0 0 0 0 false) (0, 0) _ (by rfl) (by rw [← hget_eq]; go_simp) Tryd.underlying46 rfl (by rw [info_Pt]; go_simp)) rfl ?_
    exact ⟨rfl, below_blk' b1.out (by omega) _⟩
  · have hj : j = false := by simpa using h
    subst hj
    go_wp2_with fail
    refine bodyPost_ret (v := .agg (pt 0 0 0 0 false)) (results_cell_row Tryd.results20 _ _ (W.heap.size + 1 + 1) 46 (pt 0 0 0 0 false) (0, 0) _ (by rfl) (by rw [← hget_eq]; go_simp) Tryd.underlying46 rfl (by rw [info_Pt]; go_simp)) rfl ?_
    exact ⟨rfl, below_blk' b1.out (by omega) _⟩

/-- A sum's parts. -/
def sA (x y x' y' : Nat) : Nat := mulN (subN y x) (subN y' x')
def sB (x y x' y' : Nat) : Nat := mulN (addN y x) (addN y' x')
def sC (t t' : Nat) : Nat := mulN (mulN t t') (addN dN dN)
def sE (z z' : Nat) : Nat := addN (mulN z z') (mulN z z')
set_option maxRecDepth 100000 in
set_option maxHeartbeats 4000000 in
theorem padd_core (x y z t x' y' z' t' a b c e : Nat) (W : World) (hx : x < p2) (hy : y < p2) (hz : z < p2) (ht : t < p2) (hx' : x' < p2) (hy' : y' < p2) (hz' : z' < p2) (ht' : t' < p2)
    (ha : mulN (subN y x) (subN y' x') = a) (hb : mulN (addN y x) (addN y' x') = b) (hc : mulN (mulN t t') (addN dN dN) = c) (he : addN (mulN z z') (mulN z z') = e) :
    Calls Tryd.prog 20 #[.agg (pt x y z t true), .agg (pt x' y' z' t' true)] W fun r w' => r = .returned (.agg (pt (mulN (subN b a) (subN e c)) (mulN (addN e c) (addN b a)) (mulN (subN e c) (addN e c)) (mulN (subN b a) (addN b a)) true)) ∧ Below W.heap.size W w' := by
  have bA : a < p2 := ha ▸ mul_lt (sub_lt hy hx) (sub_lt hy' hx')
  have bB : b < p2 := hb ▸ mul_lt (add_lt hy hx) (add_lt hy' hx')
  have bC : c < p2 := hc ▸ mul_lt (mul_lt ht ht') (add_lt dN_lt dN_lt)
  have bE : e < p2 := he ▸ add_lt (mul_lt hz hz') (mul_lt hz hz')
  have HA := hid ha
  have HB := hid hb
  have HC := hid hc
  have HE := hid he
  clear ha hb hc he
  have S1 := hid (fun w => sub_any y x w hy hx)
  have S2 := hid (fun w => sub_any y' x' w hy' hx')
  have A1 := hid (fun w => add_any y x w hy hx)
  have A2 := hid (fun w => add_any y' x' w hy' hx')
  have s1 := sub_lt hy hx
  have s2 := sub_lt hy' hx'
  have a1 := add_lt hy hx
  have a2 := add_lt hy' hx'
  have M1 := hid (fun w => HA.out ▸ mul_any (subN y x) (subN y' x') w s1 s2)
  have M2 := hid (fun w => HB.out ▸ mul_any (addN y x) (addN y' x') w a1 a2)
  go_enter Tryd.func20, Tryd.ntmps20
  go_upto_region 1 with (fail)
  obtain ⟨w1, hw1⟩ : ∃ w1, ((W.alloc (.cells (pt x y z t true) 46)).alloc (.cells (pt x' y' z' t' true) 46)).alloc (.cells (pt 0 0 0 0 false) 46) = w1 := ⟨_, rfl⟩
  have kA := kept (show hget w1 (W.heap.size) = some (.cells (pt x y z t true) 46 (0, 0)) by rw [← hw1]; clear hw1; go_simp)
  have kB := kept (show hget w1 (W.heap.size + 1) = some (.cells (pt x' y' z' t' true) 46 (0, 0)) by rw [← hw1]; clear hw1; go_simp)
  have kR := kept (show hget w1 (W.heap.size + 1 + 1) = some (.cells (pt 0 0 0 0 false) 46 (0, 0)) by rw [← hw1]; clear hw1; go_simp)
  have b1 : Hid (Below W.heap.size W w1) := by rw [← hw1]; repeat (first | exact Below.refl _ _ | exact below_new _ | assumption | refine Below.drew ?_ | refine Below.drewN ?_ _ | refine below_alloc ?_ _ | refine below_blk' ?_ (by omega) _)
  rw [hw1]
  clear hw1
  try clear gA lA nA mA
  try clear jA
  have jA := kA.later
  obtain ⟨gA, lA, nA, mA⟩ := kA
  try clear gB lB nB mB
  try clear jB
  have jB := kB.later
  obtain ⟨gB, lB, nB, mB⟩ := kB
  try clear gR lR nR mR
  try clear jR
  have jR := kR.later
  obtain ⟨gR, lR, nR, mR⟩ := kR
  have ci : w1.cell? ⟨W.heap.size, 16, none⟩ = some (.bool true) := (cell_at gA 16).trans (pt_is x y z t true)
  have cj : w1.cell? ⟨W.heap.size + 1, 16, none⟩ = some (.bool true) := (cell_at gB 16).trans (pt_is x' y' z' t' true)
  go_upto_region 3 with (fail)
  clear ci cj jA jB jR
  have vA : ∀ x_ : LaterV w1, hget x_.w' W.heap.size = some (.cells (pt x y z t true) 46 (0, 0)) := laterx_get gA (by simp)
  have vB : ∀ x_ : LaterV w1, hget x_.w' (W.heap.size + 1) = some (.cells (pt x' y' z' t' true) 46 (0, 0)) := laterx_get gB (by simp)
  refine wp_region_var [22, 23] (fun p => if p = 22 then ⟨24, quad 0, quad a, 44⟩ else ⟨25, quad 0, quad b, 44⟩) [] (fun _ => ⟨0, #[], #[], 0⟩) (by kernel_rfl) (by kernel_rfl) (by kernel_rfl) (vsep_new (by kernel_rfl)) (fun e he => absurd he (by simp)) (fun hsep => ?_) (fun e he => absurd he (by simp))
  have HSEP := hid hsep
  clear hsep
  repeat (first | (refine wpV_plain0 HSEP.out (by kernel_rfl) (by rfl) (by rfl) (by kernel_rfl) (by kernel_rfl) (fun K hK => ?_); go_simp; refine hK _ ?_; clear hK K; try go_ints) | (refine wpV_plain0 HSEP.out (by kernel_rfl) (by rfl) (by rfl) (by kernel_rfl) (by kernel_rfl) (fun K hK => ?_); go_simp; (with_reducible refine ⟨_, fun x => S1.out _, hK _ ?_⟩); clear hK K; try go_ints) | (refine wpV_plain0 HSEP.out (by kernel_rfl) (by rfl) (by rfl) (by kernel_rfl) (by kernel_rfl) (fun K hK => ?_); go_simp; (with_reducible refine ⟨_, fun x => S2.out _, hK _ ?_⟩); clear hK K; try go_ints) | (refine wpV_plain0 HSEP.out (by kernel_rfl) (by rfl) (by rfl) (by kernel_rfl) (by kernel_rfl) (fun K hK => ?_); go_simp; (with_reducible refine ⟨_, fun x => A1.out _, hK _ ?_⟩); clear hK K; try go_ints) | (refine wpV_plain0 HSEP.out (by kernel_rfl) (by rfl) (by rfl) (by kernel_rfl) (by kernel_rfl) (fun K hK => ?_); go_simp; (with_reducible refine ⟨_, fun x => A2.out _, hK _ ?_⟩); clear hK K; try go_ints) | (refine wpV_plain0 HSEP.out (by kernel_rfl) (by rfl) (by rfl) (by kernel_rfl) (by kernel_rfl) (fun K hK => ?_); go_simp; (with_reducible refine ⟨_, fun x => M1.out _, hK _ ?_⟩); clear hK K; try go_ints) | (refine wpV_plain0 HSEP.out (by kernel_rfl) (by rfl) (by rfl) (by kernel_rfl) (by kernel_rfl) (fun K hK => ?_); go_simp; (with_reducible refine ⟨_, fun x => M2.out _, hK _ ?_⟩); clear hK K; try go_ints) | (refine wpV_make0 HSEP.out (by kernel_rfl) (by rfl) rfl (by rfl) (by kernel_rfl) (by kernel_rfl) (fun K hK => ⟨fun x => (by first | (go_simp; done) | (go_simp; rfl)), hK _ ?_⟩); clear hK K; try go_ints) | (refine wpV_store0 22 (by rfl) (by rfl) HSEP.out (by rfl) rfl (by kernel_rfl) (fun K hK => ⟨fun g bk_ x cs hg hcs hx => (by clear hK HSEP; rcases hcs with hcs | hcs <;> (rw [hcs] at hx; clear hcs; simp only [over, dstOf, List.getElem?_toArray, List.getElem?_cons_succ, List.getElem?_cons_zero, Option.bind_some, hg]; go_simp; done)), hK _ ?_⟩); clear hK K; try go_ints) | (refine wpV_store0 23 (by rfl) (by rfl) HSEP.out (by rfl) rfl (by kernel_rfl) (fun K hK => ⟨fun g bk_ x cs hg hcs hx => (by clear hK HSEP; rcases hcs with hcs | hcs <;> (rw [hcs] at hx; clear hcs; simp only [over, dstOf, List.getElem?_toArray, List.getElem?_cons_succ, List.getElem?_cons_zero, Option.bind_some, hg]; go_simp; done)), hK _ ?_⟩); clear hK K; try go_ints))
  refine wpGho_nil ?_
  intro gL xL h0L hnL haL hlL
  clear h0L hlL HSEP
  obtain ⟨v22, e22, l22, h22⟩ := hnL 22 (by simp)
  try simp at h22
  obtain ⟨v23, e23, l23, h23⟩ := hnL 23 (by simp)
  try simp at h23
  simp only [over, dstOf, List.getElem?_toArray, List.getElem?_cons_succ, List.getElem?_cons_zero, Option.bind_some, e22, e23]
  have hxb := laterV_below xL
  have q56 := haL 22 (by simp) 23 (by simp) (by decide)
  have fA := vA xL
  have fB := vB xL
  have fR := laterx_get gR (by simp) xL
  rw [e22, e23] at q56
  clear hnL haL e22 e23 vA vB
  generalize xL.w' = w2 at *
  have b2 := hid (below_to b1.out hxb)
  have hws := b1.out.size
  have kR := lR
  clear hxb b1 gA lA nA mA gB lB nB mB gR lR nR mR S1 S2 A1 A2 M1 M2 s1 s2 a1 a2
  have q56' : v22 ≠ v23 := fun e => q56 (by rw [e])
  clear q56
  have l22' : W.heap.size ≤ v22 := by omega
  have l23' : W.heap.size ≤ v23 := by omega
  clear l22 l23
  go_upto_region 4 with (fail)
  have D1 := hid (fun w => d_any w)
  have M3 := hid (fun w => mul_any t t' w ht ht')
  have M5 := hid (fun w => mul_any z z' w hz hz')
  have A3 := hid (fun w => add_any dN dN w dN_lt dN_lt)
  have M4 := hid (fun w => HC.out ▸ mul_any (mulN t t') (addN dN dN) w (mul_lt ht ht') (add_lt dN_lt dN_lt))
  have vA : ∀ x_ : LaterV w2, hget x_.w' W.heap.size = some (.cells (pt x y z t true) 46 (0, 0)) := laterx_get fA (by simp)
  have vB : ∀ x_ : LaterV w2, hget x_.w' (W.heap.size + 1) = some (.cells (pt x' y' z' t' true) 46 (0, 0)) := laterx_get fB (by simp)
  clear xL gL
  refine wp_region_var [14, 15] (fun p => if p = 14 then ⟨16, quad 0, quad c, 44⟩ else ⟨17, quad 0, quad (mulN z z'), 44⟩) [] (fun _ => ⟨0, #[], #[], 0⟩) (by kernel_rfl) (by kernel_rfl) (by kernel_rfl) (vsep_new (by kernel_rfl)) (fun e he => absurd he (by simp)) (fun hsep => ?_) (fun e he => absurd he (by simp))
  have HSEP := hid hsep
  clear hsep
  repeat (first | (refine wpV_plain0 HSEP.out (by kernel_rfl) (by rfl) (by rfl) (by kernel_rfl) (by kernel_rfl) (fun K hK => ?_); go_simp; refine hK _ ?_; clear hK K; try go_ints) | (refine wpV_plain0 HSEP.out (by kernel_rfl) (by rfl) (by rfl) (by kernel_rfl) (by kernel_rfl) (fun K hK => ?_); go_simp; (with_reducible refine ⟨_, fun x => M3.out _, hK _ ?_⟩); clear hK K; try go_ints) | (refine wpV_plain0 HSEP.out (by kernel_rfl) (by rfl) (by rfl) (by kernel_rfl) (by kernel_rfl) (fun K hK => ?_); go_simp; (with_reducible refine ⟨_, fun x => D1.out _, hK _ ?_⟩); clear hK K; try go_ints) | (refine wpV_plain0 HSEP.out (by kernel_rfl) (by rfl) (by rfl) (by kernel_rfl) (by kernel_rfl) (fun K hK => ?_); go_simp; (with_reducible refine ⟨_, fun x => A3.out _, hK _ ?_⟩); clear hK K; try go_ints) | (refine wpV_plain0 HSEP.out (by kernel_rfl) (by rfl) (by rfl) (by kernel_rfl) (by kernel_rfl) (fun K hK => ?_); go_simp; (with_reducible refine ⟨_, fun x => M4.out _, hK _ ?_⟩); clear hK K; try go_ints) | (refine wpV_plain0 HSEP.out (by kernel_rfl) (by rfl) (by rfl) (by kernel_rfl) (by kernel_rfl) (fun K hK => ?_); go_simp; (with_reducible refine ⟨_, fun x => M5.out _, hK _ ?_⟩); clear hK K; try go_ints) | (refine wpV_make0 HSEP.out (by kernel_rfl) (by rfl) rfl (by rfl) (by kernel_rfl) (by kernel_rfl) (fun K hK => ⟨fun x => (by first | (go_simp; done) | (go_simp; rfl)), hK _ ?_⟩); clear hK K; try go_ints) | (refine wpV_store0 14 (by rfl) (by rfl) HSEP.out (by rfl) rfl (by kernel_rfl) (fun K hK => ⟨fun g bk_ x cs hg hcs hx => (by clear hK HSEP; rcases hcs with hcs | hcs <;> (rw [hcs] at hx; clear hcs; simp only [over, dstOf, List.getElem?_toArray, List.getElem?_cons_succ, List.getElem?_cons_zero, Option.bind_some, hg]; go_simp; done)), hK _ ?_⟩); clear hK K; try go_ints) | (refine wpV_store0 15 (by rfl) (by rfl) HSEP.out (by rfl) rfl (by kernel_rfl) (fun K hK => ⟨fun g bk_ x cs hg hcs hx => (by clear hK HSEP; rcases hcs with hcs | hcs <;> (rw [hcs] at hx; clear hcs; simp only [over, dstOf, List.getElem?_toArray, List.getElem?_cons_succ, List.getElem?_cons_zero, Option.bind_some, hg]; go_simp; done)), hK _ ?_⟩); clear hK K; try go_ints))
  refine wpGho_nil ?_
  intro gL xL h0L hnL haL hlL
  clear h0L hlL HSEP
  obtain ⟨v14, e14, l14, h14⟩ := hnL 14 (by simp)
  try simp at h14
  obtain ⟨v15, e15, l15, h15⟩ := hnL 15 (by simp)
  try simp at h15
  simp only [over, dstOf, List.getElem?_toArray, List.getElem?_cons_succ, List.getElem?_cons_zero, Option.bind_some, e14, e15]
  have hxb := laterV_below xL
  have q78 := haL 14 (by simp) 15 (by simp) (by decide)
  have gR := laterx_get fR (by simp) xL
  have g22 := laterx_get h22 (by simp) xL
  have g23 := laterx_get h23 (by simp) xL
  have j22 := hget_lt h22
  have j23 := hget_lt h23
  have kR2 : W.heap.size + 1 + 1 < w2.heap.size := hget_lt fR
  rw [e14, e15] at q78
  clear hnL haL e14 e15 vA vB fA fB fR h22 h23
  generalize xL.w' = w3 at *
  have b3 := hid (below_to b2.out hxb)
  have hw2 := b2.out.size
  have r1 : (v22 = v15) = False := by simp; omega
  have r2 : (v23 = v15) = False := by simp; omega
  have r3 : (v14 = v15) = False := by simp; exact fun e => q78 (by rw [e])
  have r4 : (W.heap.size + 1 + 1 = v15) = False := by simp; omega
  have hv15 : W.heap.size ≤ v15 := by omega
  clear D1 M3 M4 M5 A3 hxb q78 q56' l14 l15 j22 j23 l22' l23' b2
  have z1 := mul_lt hz hz'
  have A5 := hid (fun w => HE.out ▸ add_any (mulN z z') (mulN z z') w z1 z1)
  go_wp2_with fail
  refine (A5.out _).mono ?_
  rintro e w4 ⟨rfl, hb4⟩
  have kU := Kept.on (kept (b := v22) (o := .cells (quad a) 44 (0, 0)) (by go_simp)) hb4
  have kV := Kept.on (kept (b := v23) (o := .cells (quad b) 44 (0, 0)) (by go_simp)) hb4
  have kX := Kept.on (kept (b := v14) (o := .cells (quad c) 44 (0, 0)) (by go_simp)) hb4
  have kY := Kept.on (kept (b := v15) (o := .cells (quad (mulN z z')) 44 (0, 0)) (by go_simp)) hb4
  have kR := Kept.on (kept (b := W.heap.size + 1 + 1) (o := .cells (pt 0 0 0 0 false) 46 (0, 0)) (by go_simp)) hb4
  have b4 : Hid (Below W.heap.size W w4) := below_to (by repeat (first | exact Below.refl _ _ | exact below_new _ | exact b3.out | assumption | refine Below.drew ?_ | refine Below.drewN ?_ _ | refine below_alloc ?_ _ | refine below_blk' ?_ (by omega) _)) hb4
  clear hb4
  try clear gU lU nU mU
  obtain ⟨gU, lU, nU, mU⟩ := kU
  try clear gV lV nV mV
  obtain ⟨gV, lV, nV, mV⟩ := kV
  try clear gX lX nX mX
  obtain ⟨gX, lX, nX, mX⟩ := kX
  try clear gY lY nY mY
  obtain ⟨gY, lY, nY, mY⟩ := kY
  try clear gR lR nR mR
  obtain ⟨gR, lR, nR, mR⟩ := kR
  clear b3
  go_upto_region 6 with (fail)
  obtain ⟨w5, hw5⟩ : ∃ w5, blk w4 v15 (.cells (quad e) 44 (0, 0)) = w5 := ⟨_, rfl⟩
  have kU := kept (show hget w5 (v22) = some (.cells (quad a) 44 (0, 0)) by rw [← hw5]; clear hw5; go_simp)
  have kV := kept (show hget w5 (v23) = some (.cells (quad b) 44 (0, 0)) by rw [← hw5]; clear hw5; go_simp)
  have kX := kept (show hget w5 (v14) = some (.cells (quad c) 44 (0, 0)) by rw [← hw5]; clear hw5; go_simp)
  have kY := kept (show hget w5 (v15) = some (.cells (quad e) 44 (0, 0)) by rw [← hw5]; clear hw5; go_simp)
  have kR := kept (show hget w5 (W.heap.size + 1 + 1) = some (.cells (pt 0 0 0 0 false) 46 (0, 0)) by rw [← hw5]; clear hw5; go_simp)
  have b5 : Hid (Below W.heap.size W w5) := by rw [← hw5]; repeat (first | exact Below.refl _ _ | exact below_new _ | exact b4.out | assumption | refine Below.drew ?_ | refine Below.drewN ?_ _ | refine below_alloc ?_ _ | refine below_blk' ?_ (by omega) _)
  rw [hw5]
  clear hw5
  try clear gU lU nU mU
  try clear jU
  have jU := kU.later
  obtain ⟨gU, lU, nU, mU⟩ := kU
  try clear gV lV nV mV
  try clear jV
  have jV := kV.later
  obtain ⟨gV, lV, nV, mV⟩ := kV
  try clear gX lX nX mX
  try clear jX
  have jX := kX.later
  obtain ⟨gX, lX, nX, mX⟩ := kX
  try clear gY lY nY mY
  try clear jY
  have jY := kY.later
  obtain ⟨gY, lY, nY, mY⟩ := kY
  try clear gR lR nR mR
  try clear jR
  have jR := kR.later
  obtain ⟨gR, lR, nR, mR⟩ := kR
  clear b4
  have N1 := hid (fun w => sub_any b a w bB bA)
  have N2 := hid (fun w => sub_any e c w bE bC)
  have N3 := hid (fun w => add_any e c w bE bC)
  have N4 := hid (fun w => add_any b a w bB bA)
  have N5 := hid (fun w => made_any (subN b a) (subN e c) (addN e c) (addN b a) w (sub_lt bB bA) (sub_lt bE bC) (add_lt bE bC) (add_lt bB bA))
  refine wp_region_later_tail 13 (by kernel_rfl) (by kernel_rfl) ?_
  simp only [List.take_succ_cons, List.take_zero, List.drop_succ_cons, List.drop_zero]
  repeat ((go_big_quiet_step ((first | (go_at_call 35; first | with_reducible exact calls_later (N1.out _) | with_reducible exact calls_later (N2.out _)) | (go_at_call 37; first | with_reducible exact calls_later (N3.out _) | with_reducible exact calls_later (N4.out _)) | (go_at_call 41; with_reducible exact calls_later (N5.out _))))))
  refine wpQuiet_nil ?_
  intro wL hwL
  obtain ⟨⟨w8, hL⟩, e8⟩ := hwL
  change wL = w8 at e8
  subst e8
  obtain ⟨gR, lR, nR, mR⟩ := kept (jR ⟨_, hL⟩)
  go_wp2_with fail
  refine bodyPost_ret (v := .agg (pt (mulN (subN b a) (subN e c)) (mulN (addN e c) (addN b a)) (mulN (subN e c) (addN e c)) (mulN (subN b a) (addN b a)) true)) (results_cell_row Tryd.results20 _ _ (W.heap.size + 1 + 1) 46 (pt (mulN (subN b a) (subN e c)) (mulN (addN e c) (addN b a)) (mulN (subN e c) (addN e c)) (mulN (subN b a) (addN b a)) true) (0, 0) _ (by rfl) (by rw [← hget_eq]; go_simp) Tryd.underlying46 rfl (by rw [info_Pt]; go_simp)) rfl ?_
  exact ⟨rfl, below_blk' (below_to b5.out hL) (by omega) _⟩

end Go.Proofs.YtceljjnohjnepaaDoor
