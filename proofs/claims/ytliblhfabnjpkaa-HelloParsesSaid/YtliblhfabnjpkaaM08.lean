/- A region that draws its order and whose last operations come one behind the other, each behind all before it. The reader of messages: Feed. The document's hello of a client. The known hello of a client. Some answers that the document fixes: all laws end in them. -/
import Derived.Test.YtliblhfabnjpkaaM07
import Derived.Test.YtliblhfabnjpkaaM06
import Derived.Deep.Cut
import Derived.Test.YtliblhfabnjpkaaM02
import Derived.Test.YtliblhfabnjpkaaM01
import Derived.Deep.OwnRows
import Derived.Test.YtliblhfabnjpkaaM05
namespace Go.Proofs.Ytliblhfabnjpkaa
open Go Go.RowKit

section
variable {P : Program} {md : Region.Mode} {l : List Oper} {st : Oper} {Q : Exit → Act → World → Prop}

/-- What the others come to, with several operations behind them, one behind the other. -/
def beforeL (P : Program) : List Oper → List Oper → (Exit → Act → World → Prop) → Exit → Act → World → Prop
  | _, [], Q => Q
  | l, st :: rest, Q => before P l st (beforeL P (l ++ [st]) rest Q)
def peelsB (md : Region.Mode) : List Oper → List Oper → Bool
  | _, [] => true
  | l, st :: rest => peelB md l st && (st.guard.isNone && peelsB md (l ++ [st]) rest)
theorem beforeL_exit : ∀ (tail l : List Oper) (Q : Exit → Act → World → Prop) (e : Exit) (a : Act) (w : World), e ≠ .normal → beforeL P l tail Q e a w = Q e a w
  | [], _, _, _, _, _, _ => rfl
  | st :: rest, l, Q, e, a, w, h => by
    unfold beforeL
    have : before P l st (beforeL P (l ++ [st]) rest Q) e a w = beforeL P (l ++ [st]) rest Q e a w := by cases e <;> first | exact absurd rfl h | rfl
    rw [this, beforeL_exit rest _ Q e a w h]
theorem letsOutL : ∀ (tail l : List Oper) {Q : Exit → Act → World → Prop}, LetsOut Q → LetsOut (beforeL P l tail Q)
  | [], _, _, h => h
  | st :: rest, l, Q, h => by
    have := letsOutL rest (l ++ [st]) h
    exact this
theorem wp_afterL {o : Oper} {a : Act} {w : World} {K K' : Act → World → Prop} (tail l : List Oper) (hk : ∀ a w, K a w → K' a w) (hh : o.wp P a w K Q) : o.wp P a w K' (beforeL P l tail Q) := by
  have hx : ∀ e a w, e ≠ .normal → Q e a w → beforeL P l tail Q e a w := fun e a w h hq => by rw [beforeL_exit tail l Q e a w h]; exact hq
  unfold Oper.wp at *
  generalize (execOp a.eval o).run P w = r at *
  cases r with
  | ok n w' =>
    cases n <;> simp only [Oper.upon] at hh ⊢ <;>
      first
        | exact hk _ _ hh
        | exact Calls.mono hh (fun e w'' he => by cases e <;> first | exact hk _ _ he | exact hx _ _ _ (by simp) he | exact letsOutL tail l he)
        | exact Rows.mono hh (fun _ _ he => hk _ _ he)
  | halt x w' => cases x <;> simp only [Oper.upon] at hh ⊢ <;> first | exact hh | exact hx _ _ _ (by simp) hh | exact letsOutL tail l hh
theorem wpOp_last {tail rest : List Oper} {m : List Oper} (hg : st.guard.isNone = true) {a : Act} {w : World} {K' : Act → World → Prop} {ops : Array Oper} (h : wpList P ops Q (st :: tail) a w)
    (hk : ∀ a' w', wpList P ops Q tail a' w' → K' a' w') : wpOp P (l ++ [st]).toArray (beforeL P m rest Q) l.length K' a w := by
  unfold wpOp
  rw [get_last]
  unfold wpList at h
  have hgn : st.guard = none := by simpa using hg
  have hw : Region.wanted st (yielded ops a.tmps) = true := by unfold Region.wanted; rw [hgn]
  have hw2 : Region.wanted st (yielded (l ++ [st]).toArray a.tmps) = true := by unfold Region.wanted; rw [hgn]
  simp only [hw, hw2, if_true] at h ⊢
  exact h.imp (fun h => wp_afterL rest m hk h) (fun ⟨x, y⟩ => ⟨x, letsOutL rest m y⟩)
theorem beforeL_normal : ∀ (tail l : List Oper) {ops : Array Oper} {a : Act} {w : World}, peelsB md l tail = true → wpList P ops Q tail a w → beforeL P l tail Q .normal a w
  | [], _, _, _, _, _, h => h
  | st :: rest, l, ops, a, w, hp, h => by
    unfold peelsB at hp
    simp only [Bool.and_eq_true] at hp
    show wpOp P (l ++ [st]).toArray (beforeL P (l ++ [st]) rest Q) l.length _ a w
    exact wpOp_last hp.2.1 h (fun a' w' h' => beforeL_normal rest (l ++ [st]) hp.2.2 h')
theorem wpAny_peels : ∀ (tail l : List Oper) (f : Nat) (L L' : Array Bool) (a : Act) (w : World), peelsB md l tail = true → Closed md l.toArray L → L.size = l.length → (∀ i, i < l.length → L.getD i true = false) → L' = Array.replicate (l.length + tail.length) false → L = Array.replicate l.length false →
    wpAny P md l.toArray (beforeL P l tail Q) f L a w → wpAny P md (l ++ tail).toArray Q (f + tail.length) L' a w
  | [], l, f, L, L', a, w, _, _, _, _, hL', hL, h => by
    subst hL' hL
    simpa [beforeL] using h
  | st :: rest, l, f, L, L', a, w, hp, hc, hz, hn, hL', hL, h => by
    unfold peelsB at hp
    simp only [Bool.and_eq_true] at hp
    have h1 := wpAny_peel (md := md) (Q := beforeL P (l ++ [st]) rest Q) (Peel.of hp.1) f L (Array.replicate (l.length + 1) false) a w hc hz (by simp) (fun i hi => by rw [hn i hi]; simp [Nat.lt_succ_of_lt hi]) (by simp) h
    have h2 := wpAny_peels rest (l ++ [st]) (f + 1) (Array.replicate (l.length + 1) false) L' a w hp.2.2 (fun j oj _ hl => by
      have : (Array.replicate (l.length + 1) false).getD j false = false := by
        rcases Nat.lt_or_ge j (l.length + 1) with h | h <;> simp [h]
      rw [this] at hl; cases hl) (by simp) (fun i hi => by simp at hi; simp [hi]) (by rw [hL']; simp [Nat.add_assoc, Nat.add_comm 1]) (by simp) h1
    rw [List.append_assoc] at h2
    simpa [Nat.add_assoc, Nat.add_comm 1] using h2
/-- The law on private operations, with several operations behind all, one behind the other. -/
theorem wp_region_gho_tail {id : Nat} {a : Act} {w : World} {l' : List Oper} (n : Nat) (pv : List Nat) (Rel : Nat → Value → World → Prop) (hm : P.follows .mixedOrders = true) (hB : Region.lexB .any (l'.take n).toArray = true) (hP : privB (l'.take n).toArray pv = true)
    (hpl : peelsB .any (l'.take n) (l'.drop n) = true) (hR : ∀ p u w w', Rel p u w → Below w.heap.size w w' → Rel p u w')
    (h : wpGho P (l'.take n).toArray pv Rel (fun w' => ∃ x : Later w, w' = x.w') (Post1 pv Rel) (fun a' => ∀ g w', (∃ x : Later w, w' = x.w') → (∀ p ∈ pv, Rel p (g p) w') → wpList P l'.toArray Q (l'.drop n) (over (l'.take n).toArray pv g a') w') 0 (l'.take n) a) : (Code.region id l'.toArray true).wp P Q a w := by
  have hl : l' = l'.take n ++ l'.drop n := (List.take_append_drop n l').symm
  generalize l'.drop n = tail at *
  generalize l'.take n = l at *
  subst hl
  simp only [Region.lexB, Bool.and_eq_true] at hB
  refine wp_region_any hm ?_
  have hp := Priv.of hP
  have h' : wpGho P l.toArray pv Rel (fun w' => ∃ x : Later w, w' = x.w') (Post1 pv Rel) (fun a' => ∀ g w', (∃ x : Later w, w' = x.w') → (∀ p ∈ pv, Rel p (g p) w') → beforeL P l tail Q .normal (over l.toArray pv g a') w') 0 l a := by
    refine (?_ : ∀ (k : Nat) (m : List Oper) (b : Act), wpGho P l.toArray pv Rel (fun w' => ∃ x : Later w, w' = x.w') (Post1 pv Rel) _ k m b → wpGho P l.toArray pv Rel (fun w' => ∃ x : Later w, w' = x.w') (Post1 pv Rel) _ k m b) 0 l a h
    intro k m
    induction m generalizing k with
    | nil =>
      intro b hb g w' hw hr
      exact beforeL_normal tail l hpl (hb g w' hw hr)
    | cons o m ih =>
      rintro b ⟨v, h1, h2⟩
      exact ⟨v, h1, ih _ _ h2⟩
  have hx := wpAnyG_lex (P := P) (pv := pv) (Rel := Rel) (C := fun w' => ∃ x : Later w, w' = x.w') hp hB.1 l 0 (Array.replicate l.toArray.size false) a (by simp) (by simp) (fun j hj => absurd hj (Nat.not_lt_zero _)) (by simpa using hB.2) h'
  have hf : ∀ m j, (Array.replicate m false).getD j false = false := fun m j => by
    rcases Nat.lt_or_ge j m with h | h
    · simp [h]
    · simp [h]
  have hy := wpAny_of_gho (P := P) (ops := l.toArray) (pv := pv) (Rel := Rel) (C := fun w' => ∃ x : Later w, w' = x.w') (Post := Post1 pv Rel) hp (Region.noSelect_spec hB.1) (Q' := beforeL P l tail Q) l.length (fun _ _ => True)
    (fun hm => by obtain ⟨o, _, ho, _⟩ := hp.has _ hm; simp at ho) (fun o ho => by simp at ho) (fun listed hz _ hl => by
      have hz' : listed.size = l.length := by simpa using hz
      simp [Array.getElem?_eq_none (xs := listed) (i := l.length) (by omega)] at hl) (fun w1 w2 ⟨x, hx⟩ hb => by
      subst hx; exact ⟨⟨w2, below_to x.h hb⟩, rfl⟩) hR (fun _ _ _ _ _ => trivial) (fun _ _ _ _ _ _ _ h => h) (fun hlt => by simp at hlt) (fun g a w' hw _ hr hq => hq g w' hw (hr (by simp))) _ _ _ (fun _ => undef) a w.drew (fun j oj _ hl => by rw [hf] at hl; cases hl)
    ⟨rfl, rfl, fun t _ => by
      unfold valAt
      have : (pv.find? fun p => (Array.replicate l.toArray.size false).getD p false && dstOf l.toArray p == some t) = none := by
        rw [List.find?_eq_none]; intro p _; rw [hf]; simp
      rw [this]⟩ ⟨⟨w.drew, (Below.refl _ _).drew⟩, rfl⟩ (fun _ => trivial) (fun _ p _ hl => by rw [hf] at hl; cases hl) (by simp) hx
  have hz := wpAny_peels (md := .any) tail l _ _ (Array.replicate (l.length + tail.length) false) a w.drew hpl (fun j oj _ hl => by rw [hf] at hl; cases hl) (by simp) (fun i hi => by simp [hi]) rfl (by simp) hy
  simpa using hz
end

end Go.Proofs.Ytliblhfabnjpkaa

namespace Go.Proofs.Ytliblhfabnjpkaa
open Go Go.RowKit
section
variable {w : World}
theorem feed_nil (s : ByteArray) : Calls Try.prog 9 #[.pointer none, .string s] w fun e w' => w = w' ∧ e = .returned (.tuple #[.slice none 0 0, .int .i64 1]) := by
  have hn := hid (none_nil (w := w))
  go_enter Try.func9, Try.ntmps9
  go_wp2_with fail
  refine hn.out.mono ?_
  rintro e w' ⟨rfl, rfl⟩
  go_wp2_with fail
  go_ret2
  exact ⟨rfl, rfl⟩
theorem app_str_nil (w : World) : (Builtin.append_ #[30, 9] 30 #[.slice none 0 0, .string ⟨#[]⟩]).run Try.prog w = .ok (.slice none 0 0) w := by kernel_rfl
theorem app_sl_nil (w : World) (a : Addr) (c : Nat) : (Builtin.append_ #[30, 30] 30 #[.slice none 0 0, .slice (some a) 0 c]).run Try.prog w = .ok (.slice none 0 0) w := by kernel_rfl
theorem info_Message : (Try.prog.info? 33).map (fun i => (i.zero, i.size, i.bytes)) = some (some (.agg #[.int .u8 0, .string ⟨#[]⟩]), 2, 24) := by kernel_rfl
theorem clip_row {B : Nat} {v : Value} {ms : List (UInt8 × HE.BS)} (h : w.ownsRow B 33 2 v ms.length (msgVs ms)) :
    ∃ a n c, v = .slice a n c ∧ (∀ w1, Calls Try.prog 30 #[.slice a n c] w1 fun e w' => e = .returned (.slice a n n) ∧ Below w1.heap.size w1 w') ∧ MsgsAt w B (.slice a n n) ms := by
  obtain ⟨hl, ⟨rfl, hn⟩ | ⟨g, cap, cur, rfl, h2, h3, h4, h5, h6⟩⟩ := h
  · exact ⟨none, 0, 0, rfl, fun w1 => (clip_any none 0 0 (Nat.le_refl _) (fun _ => rfl) (Nat.zero_le _)).mono fun _ _ h => ⟨h.2, by rw [← h.1]; exact Below.refl _ _⟩, .inl ⟨rfl, List.length_eq_zero_iff.1 hn⟩⟩
  · refine ⟨some ⟨g, 0, none⟩, ms.length, cap, rfl, fun w1 => (clip_any _ _ _ h4 (fun e => by cases e) h5).mono fun _ _ h => ⟨h.2, by rw [← h.1]; exact Below.refl _ _⟩, .inr ⟨g, ms.length, rfl, h2, hget_lt h3, fun k x hx => ?_⟩⟩
    have hk : k < ms.length := (List.getElem?_eq_some_iff.1 hx).1
    obtain ⟨e1, e2⟩ := msgVs_at ms k x hx
    have hrow : w.ownsRow B 33 2 (.slice (some ⟨g, 0, none⟩) ms.length cap) ms.length (msgVs ms) := ⟨hl, .inr ⟨g, cap, cur, rfl, h2, h3, h4, h5, h6⟩⟩
    exact ⟨(hrow.cellAt (k * 2) (by omega)).trans e1, (hrow.cellAt (k * 2 + 1) (by omega)).trans e2⟩
theorem orN (x y : Nat) (hx : x < 1000000000) (hy : y < 1000000000) (h : x ||| y = x + y) : bits .or .i64 (x : Int) (y : Int) = ((x + y : Nat) : Int) := by
  show IntKind.i64.wrap ((BitVec.ofInt 64 (x : Int) ||| BitVec.ofInt 64 (y : Int)).toNat : Int) = _
  have o : ∀ n : Nat, n < 1000000000 → (BitVec.ofInt 64 (n : Int)).toNat = n := fun n h => by
    rw [BitVec.ofInt_natCast, BitVec.toNat_ofNat]
    exact Nat.mod_eq_of_lt (Nat.lt_trans h (by decide))
  rw [BitVec.toNat_or, o _ hx, o _ hy, h]
  rw [IntKind.wrap_i64]
  omega
theorem or_sum (x y k : Nat) (hy : y < 2 ^ k) (hx : x % 2 ^ k = 0) : x ||| y = x + y := by
  have h1 := Nat.shiftLeft_add_eq_or_of_lt (b := y) (i := k) hy (x / 2 ^ k)
  rw [Nat.shiftLeft_eq, Nat.div_mul_cancel (Nat.dvd_of_mod_eq_zero hx)] at h1
  exact h1.symm
theorem or24a (a b x y : Nat) (ha : a < 256) (hb : b < 256) (hx : x = a * 65536) (hy : y = b * 256) : bits .or .i64 (x : Int) (y : Int) = ((x + y : Nat) : Int) :=
  orN x y (by omega) (by omega) (or_sum x y 16 (by rw [show (2 : Nat) ^ 16 = 65536 from rfl]; omega) (by rw [show (2 : Nat) ^ 16 = 65536 from rfl]; omega))
theorem or24b (z c : Nat) (hz : z < 16777216) (hc : c < 256) (h8 : z % 256 = 0) : bits .or .i64 (z : Int) (c : Int) = ((z + c : Nat) : Int) :=
  orN z c (by omega) (by omega) (or_sum z c 8 (by rw [show (2 : Nat) ^ 8 = 256 from rfl]; omega) (by rw [show (2 : Nat) ^ 8 = 256 from rfl]; omega))
/-- How memory stands while Feed runs. -/
structure FW (W w : World) (R : Nat) (bv v : Value) (L0 : HE.BS) (ms : List (UInt8 × HE.BS)) (b : Value) (l : HE.BS) (bad : Bool) : Prop where
  told : HE.feedL L0 = if bad then (ms, l, true) else (ms ++ (HE.feedL l).1, (HE.feedL l).2)
  row : w.ownsRow W.heap.size 33 2 v ms.length (msgVs ms)
  rd : RdAt w R b l (if bad then 270 else 0)
  far : ∀ j, v.ownBlock = some j → b.ownBlock ≠ some j
  out : Out (fun k => k = R ∨ bv.ownBlock = some k) W w
  at' : b.ownBlock = bv.ownBlock ∨ ∀ j, b.ownBlock = some j → W.heap.size ≤ j
  lt : R < W.heap.size
  room : ms.length + l.length ≤ 1000000
/-- What Feed hands back. -/
def FeedV (W : World) (R : Nat) (bv : Value) (L0 : HE.BS) (e : Ending) (w' : World) : Prop :=
  ∃ mv b, e = .returned (.tuple #[mv, .int .i64 (if (HE.feedL L0).2.2 then 270 else 0)]) ∧ MsgsAt w' W.heap.size mv (HE.feedL L0).1 ∧ RdAt w' R b (HE.feedL L0).2.1 (if (HE.feedL L0).2.2 then 270 else 0) ∧
    Out (fun k => k = R ∨ bv.ownBlock = some k) W w' ∧ (b.ownBlock = bv.ownBlock ∨ ∀ j, b.ownBlock = some j → W.heap.size ≤ j)
theorem FW.done {W w w' : World} {R : Nat} {bv v : Value} {L0 : HE.BS} {ms : List (UInt8 × HE.BS)} {b : Value} {l : HE.BS} {bad : Bool} (h : FW W w R bv v L0 ms b l bad) (hb : Below w.heap.size w w') (hr : HE.feedL L0 = (ms, l, bad)) {mv : Value} (hm : MsgsAt w W.heap.size mv ms) {i : Int} (hi : i = if bad then 270 else 0) :
    FeedV W R bv L0 (.returned (.tuple #[mv, .int .i64 i])) w' := by
  unfold FeedV
  rw [hr, hi]
  exact ⟨mv, b, rfl, hm.keep hb, ⟨keepB hb h.rd.cells, h.rd.own.keep fun g o _ ho => keepB hb ho, h.rd.apart⟩, h.out.then (Out.of_below hb), h.at'⟩
theorem FW.below {W w w' : World} {R : Nat} {bv v : Value} {L0 : HE.BS} {ms : List (UInt8 × HE.BS)} {b : Value} {l : HE.BS} {bad : Bool} (h : FW W w R bv v L0 ms b l bad) (hb : Below w.heap.size w w') : FW W w' R bv v L0 ms b l bad :=
  ⟨h.told, owns_keep h.row fun g _hg hlt _ => hb.block g hlt, ⟨keepB hb h.rd.cells, h.rd.own.keep fun _ _o _ ho => keepB hb ho, h.rd.apart⟩, h.far, h.out.then (Out.of_below hb), h.at', h.lt, h.room⟩
theorem FW.fail {W w : World} {R : Nat} {bv v : Value} {L0 : HE.BS} {ms : List (UInt8 × HE.BS)} {b : Value} {l : HE.BS} (h : FW W w R bv v L0 ms b l false) (h4 : ¬ l.length < 4) (hN : 16384 < HE.msgN l) : FW W (w.setCell ⟨R, 1, none⟩ (.int .i64 270)) R bv v L0 ms b l true := by
  have ho : Out (fun k => k = R) w (w.setCell ⟨R, 1, none⟩ (.int .i64 270)) := Out.setCell (Out.refl (fun k => k = R) w) (.inl rfl) _
  refine ⟨?_, owns_out h.row ho (fun k hk e => by have := h.lt; omega), ⟨hget_setCell h.rd.cells 1 _, h.rd.own.keep fun g o hg ho => hget_setCell_ne ho (fun e => h.rd.apart (by rw [hg]; exact congrArg some e)) _, h.rd.apart⟩, h.far, h.out.trans ho (fun k _ e => .inl e), h.at', h.lt, h.room⟩
  have := h.told
  rw [HE.feedL_bad h4 hN] at this
  simpa using this
set_option maxRecDepth 100000 in
set_option maxHeartbeats 8000000 in
theorem feed_any {R : Nat} {bv : Value} {l : HE.BS} (s : HE.BS) (h : RdAt w R bv l 0) (hbv : ∀ j, bv.ownBlock = some j → j < w.heap.size) (hl : l.length + s.length ≤ 1000000) :
    Calls Try.prog 9 #[.pointer (some ⟨R, 0, none⟩), .string ⟨s.toArray⟩] w (FeedV w R bv (l ++ s)) := by
  have hn := hid (none_yes h)
  have hlt := hget_lt h.cells
  have c0 : w.cell? ⟨R, 0, none⟩ = some bv := cell_at h.cells 0
  have c1 : w.cell? ⟨R, 1, none⟩ = some (.int .i64 0) := cell_at h.cells 1
  have fR := free_at h.cells
  have hsrc : Src Try.prog 1 9 (.string ⟨s.toArray⟩) s.length (u8s s) w := by
    have h := Src.ofString (P := Try.prog) (w := w) Try.underlying9 ⟨s.toArray⟩
    have e : (⟨s.toArray⟩ : ByteArray).size = s.length := by simp [ByteArray.size]
    rw [e] at h
    exact h
  have hnil : s = [] → (Builtin.append_ #[30, 9] 30 #[.slice none 0 0, .string ⟨s.toArray⟩]).run Try.prog w = .ok (.slice none 0 0) w := fun e => by subst e; exact app_str_nil w
  obtain ⟨i0, hi, hz0, hz1, hz2⟩ := info_parts info_u8
  have HSRC := hid hsrc
  have HNIL := hid hnil
  have H := hid h
  obtain ⟨ba, bc, hbs, -⟩ := h.own.shape
  subst hbs
  clear hsrc hnil h
  go_enter Try.func9, Try.ntmps9
  go_wp2_with fail
  refine hn.out.mono ?_
  rintro e w' ⟨rfl, rfl⟩
  go_wp2_with (at_builtin; refine wpList_append_Q0 rfl _ _ 30 9 rfl i0 Try.underlying30 hi hz0 hz1 hz2 _ _ rfl rfl _ s H.out.own HSRC.out HNIL.out (by omega) ?_)
  intro v' w1 hq1 hg1 hn1
  have hN : (l ++ s).length ≤ 1000000 := by rw [List.length_append]; exact hl
  generalize l ++ s = L0 at *
  have hgR := hget_grown H.out.cells hg1 (fun e => H.out.apart e.symm)
  have c0' : w1.cell? ⟨R, 0, none⟩ = some (.slice ba l.length bc) := cell_at hgR 0
  have fR' := free_at hgR
  obtain ⟨va, vc, hvs, -⟩ := hq1.shape
  subst hvs
  have HA := hid hn1
  have HQ := hid hq1
  have HG := hid hg1
  have HR := hid hgR
  have HB := hid hbv
  clear hn1 hq1 hg1 hgR c0 c1 fR hbv
  go_wp2_with fail
  clear c0' fR'
  have hne : (Value.slice va L0.length vc).ownBlock ≠ some R := by
    rcases HA.out with h1 | h1
    · rw [h1]; exact H.out.apart
    · rw [h1]; intro e; have e := Option.some.inj e; omega
  have h2 : FW w (w1.setCell ⟨R, 0, none⟩ (.slice va L0.length vc)) R (.slice ba l.length bc) (.slice none 0 0) L0 [] (.slice va L0.length vc) L0 false := by
    refine ⟨by simp, World.ownsRow_nil _ _ _ _, ⟨hget_setCell HR.out 0 _, HQ.out.keep fun g o hg ho => hget_setCell_ne ho (fun e => hne (by rw [hg, e])) _, hne⟩, (fun j e => by cases e), ?_, ?_, hlt, by simp; omega⟩
    · exact (Out.of_grown HG.out (fun j e => .inr e)).setCell (.inl (.inl rfl)) _
    · rcases HA.out with h1 | h1
      · exact .inl h1
      · exact .inr fun j e => by rw [h1] at e; have e := Option.some.inj e; omega
  have H2 := hid h2
  clear h2 hne HA HQ HG HR
  generalize w1.setCell ⟨R, 0, none⟩ (.slice va L0.length vc) = w2 at *
  go_loopg [6] (L0.length + 2) (fun g v wr => ∃ ms b l' bad, l'.length + (if bad then 0 else 1) < g ∧ FW w wr R (.slice ba l.length bc) v L0 ms b l' bad)
  case atStart => exact ⟨[], _, L0, false, by simp, H2.out⟩
  case round =>
    obtain ⟨ms, b, l', bad, hm, hf⟩ := hrel
    have c0 : wr.cell? ⟨R, 0, none⟩ = some b := cell_at hf.rd.cells 0
    have c1 : wr.cell? ⟨R, 1, none⟩ = some (.int .i64 (if bad then 270 else 0)) := cell_at hf.rd.cells 1
    obtain ⟨a, n, c, hv, hclip, hms⟩ := clip_row hf.row
    subst hv
    obtain ⟨xa, xc, hb, hxc, hx0, hxm, hxs⟩ := hf.rd.own.shape
    subst hb
    have HF := hid hf
    have HCL := hid hclip
    have HMS := hid hms
    have HXS := hid (And.intro hxc (And.intro hx0 (And.intro hxm hxs)))
    clear hf hclip hms hxc hx0 hxm hxs
    by_cases hbad : bad = true
    · subst hbad
      simp only [if_true] at c1 hm
      have lc1 := later_cell c1
      have HT := hid HF.out.told
      go_wp2_with fail
      refine wp_region_later (by kernel_rfl) (by kernel_rfl) ?_
      repeat ((go_big_quiet_step ((go_at_call 30; with_reducible exact calls_later (HCL.out _)))))
      refine wpQuiet_nil ?_
      intro wL hwL
      obtain ⟨⟨w8, hL⟩, e8⟩ := hwL
      change wL = w8 at e8
      subst e8
      go_wp2_with fail
      go_ret2
      exact HF.out.done hL HT.out HMS.out rfl
    · have hbad' : bad = false := by simpa using hbad
      subst hbad'
      simp only [Bool.false_eq_true, if_false] at c1 hm
      by_cases h4 : l'.length < 4
      · have d4 : decide ((4 : Int) ≤ (l'.length : Int)) = false := decide_eq_false (by omega)
        have HT := hid (show HE.feedL L0 = (ms, l', false) by have := HF.out.told; rw [HE.feedL_short h4] at this; simpa using this)
        have lc1 := later_cell c1
        go_wp2_with fail
        refine wp_region_later (by kernel_rfl) (by kernel_rfl) ?_
        repeat ((go_big_quiet_step ((go_at_call 30; with_reducible exact calls_later (HCL.out _)))))
        refine wpQuiet_nil ?_
        intro wL hwL
        obtain ⟨⟨w8, hL⟩, e8⟩ := hwL
        change wL = w8 at e8
        subst e8
        go_wp2_with fail
        go_ret2
        exact HF.out.done hL HT.out HMS.out rfl
      · have d4 : decide ((4 : Int) ≤ (l'.length : Int)) = true := decide_eq_true (by omega)
        obtain ⟨g, hg, cb1⟩ := HXS.out.2.2.2 1 (by omega)
        subst hg
        obtain ⟨g2, hg2, cb2⟩ := HXS.out.2.2.2 2 (by omega)
        obtain ⟨g3, hg3, cb3⟩ := HXS.out.2.2.2 3 (by omega)
        obtain ⟨g0, hg0, cb0⟩ := HXS.out.2.2.2 0 (by omega)
        have e2 := congrArg Addr.block (Option.some.inj hg2)
        have e3 := congrArg Addr.block (Option.some.inj hg3)
        have e0 := congrArg Addr.block (Option.some.inj hg0)
        simp only [] at e2 e3 e0
        subst e2 e3 e0
        have lb1 := (l'.getD 1 0).toNat_lt
        have lb2 := (l'.getD 2 0).toNat_lt
        have lb3 := (l'.getD 3 0).toNat_lt
        have hmN : HE.msgN l' = (l'.getD 1 0).toNat * 65536 + (l'.getD 2 0).toNat * 256 + (l'.getD 3 0).toNat := rfl
        generalize (l'.getD 1 0).toNat = b1 at *
        generalize (l'.getD 2 0).toNat = b2 at *
        generalize (l'.getD 3 0).toNat = b3 at *
        have lc0 := later_cell c0
        have lcb1 := later_cell cb1
        have lcb2 := later_cell cb2
        have lcb3 := later_cell cb3
        go_wp2_with fail
        refine wp_region_later (by kernel_rfl) (by kernel_rfl) ?_
        repeat ((go_big_quiet_step (fail)))
        refine wpQuiet_nil ?_
        intro wL hwL
        obtain ⟨⟨w8, hL⟩, e8⟩ := hwL
        change wL = w8 at e8
        subst e8
        have hor : bits .or .i64 (bits .or .i64 ((b1 : Int) * 65536) ((b2 : Int) * 256)) (b3 : Int) = ((HE.msgN l' : Nat) : Int) := by
          obtain ⟨x, hx⟩ : ∃ x, x = b1 * 65536 := ⟨_, rfl⟩
          obtain ⟨y, hy⟩ : ∃ y, y = b2 * 256 := ⟨_, rfl⟩
          rw [show (b1 : Int) * 65536 = (x : Int) by omega, show (b2 : Int) * 256 = (y : Int) by omega, or24a b1 b2 x y lb1 lb2 hx hy, or24b (x + y) b3 (by omega) lb3 (by omega), hmN]
          congr 1
          omega
        rw [hor]
        have hNlt : HE.msgN l' < 16777216 := by rw [hmN]; omega
        have HF1 := hid (HF.out.below hL)
        have HMS1 := hid (HMS.out.keep hL)
        clear hor hmN lb1 lb2 lb3 lcb1 lcb2 lcb3 lc0 cb1 cb2 cb3 cb0 HF c0 c1 hL HMS hg2 hg3 hg0 hbad d4 HXS
        have c0 : wL.cell? ⟨R, 0, none⟩ = some (.slice (some ⟨g, 0, none⟩) l'.length xc) := cell_at HF1.out.rd.cells 0
        have c1 : wL.cell? ⟨R, 1, none⟩ = some (.int .i64 0) := cell_at HF1.out.rd.cells 1
        have fR := free_at HF1.out.rd.cells
        obtain ⟨N, hN⟩ : ∃ N, HE.msgN l' = N := ⟨_, rfl⟩
        rw [hN] at hNlt ⊢
        have HN := hid hN
        clear hN
        by_cases hN1 : 16384 < N
        · have d1 : decide ((16384 : Int) < (N : Int)) = true := decide_eq_true (by omega)
          have HF2 := hid (HF1.out.fail h4 (by rw [HN.out]; exact hN1))
          go_wp2_with fail
          go_roundg (gk - 1)
          case measure => omega
          case rel => exact ⟨ms, _, l', true, by simp; omega, HF2.out⟩
        · have d1 : decide ((16384 : Int) < (N : Int)) = false := decide_eq_false (by omega)
          by_cases hN2 : l'.length < 4 + N
          · have d2 : decide ((l'.length : Int) < 4 + (N : Int)) = true := decide_eq_true (by omega)
            have HT := hid (show HE.feedL L0 = (ms, l', false) by have := HF1.out.told; rw [HE.feedL_part h4 (by rw [HN.out]; exact hN1) (by rw [HN.out]; exact hN2)] at this; simpa using this)
            go_wp2_with fail
            refine (HCL.out _).mono ?_
            rintro e w9 ⟨rfl, hL⟩
            go_wp2_with fail
            go_ret2
            exact HF1.out.done hL HT.out HMS1.out rfl
          · have d2 : decide ((l'.length : Int) < 4 + (N : Int)) = false := decide_eq_false (by omega)
            obtain ⟨xa', xc', hb', hxc, -, hxm, hxs⟩ := HF1.out.rd.own.shape
            obtain ⟨rfl, -, rfl⟩ : (some ⟨g, 0, none⟩ : Option Addr) = xa' ∧ l'.length = l'.length ∧ xc = xc' := by injection hb' with h1 h2 h3; exact ⟨h1, h2, h3⟩
            have hcell : ∀ j, j < l'.length → wL.cell? ⟨g, j, none⟩ = some (.int .u8 ((l'.getD j 0).toNat : Int)) := fun j hj => by
              obtain ⟨g', e, h⟩ := hxs j hj
              obtain rfl : g = g' := congrArg Addr.block (Option.some.inj e)
              exact h
            clear hxs hb'
            obtain ⟨n4, hn4, hif4⟩ : ∃ n4, (0 < N → n4 = 4) ∧ (if xc = 4 then some (⟨g, 0, none⟩ : Addr) else some ⟨g, 4, none⟩) = some ⟨g, n4, none⟩ := by
              by_cases h : xc = 4
              · exact ⟨0, fun h5 => by omega, by rw [if_pos h]⟩
              · exact ⟨4, fun _ => rfl, by rw [if_neg h]⟩
            have hconv := fun x : Later wL => conv_string x.w' g n4 N (xc - 4) ((l'.drop 4).take N) (by rw [List.length_take, List.length_drop]; omega) (fun j hj => by
              rw [hn4 (by omega), later_cell (hcell (4 + j) (by omega)) x]
              simp only [List.getD_eq_getElem?_getD, List.getElem?_take, if_pos hj, List.getElem?_drop])
            obtain ⟨Y, hY⟩ : ∃ Y, ((l'.drop 4).take N) = Y := ⟨_, rfl⟩
            rw [hY] at hconv
            have HY := hid hY
            have lcb0 := later_cell (hcell 0 (by omega))
            obtain ⟨b0, hb0⟩ : ∃ b, l'.getD 0 0 = b := ⟨_, rfl⟩
            rw [hb0] at lcb0
            have HB0 := hid hb0
            have HCE := hid hcell
            have HN4 := hid hn4
            have hi0 : (0 : Int) < (l'.length : Int) := by omega
            have hi1 : (4 : Int) ≤ 4 + (N : Int) := by omega
            have hi2 : 4 + (N : Int) ≤ (xc : Int) := by omega
            have hi3 : 0 < l'.length := by omega
            have hi4 : 4 + N ≤ xc := by omega
            have hi5 : (xc : Int) ≤ 9223372036854775807 := by unfold maxLen at hxm; omega
            clear hY hb0 hcell hn4
            go_wp2_with fail
            have lc0 := later_cell c0
            refine wp_region_gho_tail 17 [16] (fun _ u x => ∃ b, u = .slice (some ⟨b, 0, none⟩) 1 1 ∧ hget x b = some (.cells #[.int .u8 (b0.toNat : Int), .string ⟨Y.toArray⟩] 33 (0, 0))) (by kernel_rfl) (by kernel_rfl) (by kernel_rfl) (by kernel_rfl) (fun _ u w w' ⟨b, h1, h2⟩ hb => ⟨b, h1, keepB hb h2⟩) ?_
            simp only [List.take_succ_cons, List.take_zero, List.drop_succ_cons, List.drop_zero]
            repeat (first | (refine wpGho_plain (by kernel_rfl) (by decide) (by rfl) (by rfl) (fun K hK => ?_); go_simp; refine hK _ ?_; clear hK K; try go_ints))
            refine wpGho_make (by kernel_rfl) (by decide) (by rfl) (by rfl) (by rfl) (fun K hK => ?_)
            go_simp
            refine ⟨fun x => ⟨below_new _, _, rfl, alloc_at _ _⟩, hK _ ?_⟩
            clear hK K
            try simp only [Act.put, List.setIfInBounds_toArray, List.set_cons_zero, List.set_cons_succ]
            refine wpGho_nil ?_
            intro gg wM hwM hR
            obtain ⟨⟨w8, hM⟩, e8⟩ := hwM
            change wM = w8 at e8
            subst e8
            obtain ⟨bm, hbm, hgm⟩ := hR 16 (by decide)
            rw [show ∀ a, over _ [16] gg a = Act.put a (some 95) (gg 16) from fun _ => rfl, hbm]
            simp only [Act.put, List.setIfInBounds_toArray, List.set_cons_zero, List.set_cons_succ]
            obtain ⟨im, him, hii⟩ := Option.map_eq_some_iff.1 info_Message
            obtain ⟨hm0, hm1, hm2⟩ : im.zero = some (.agg #[.int .u8 0, .string ⟨#[]⟩]) ∧ im.size = 2 ∧ im.bytes = 24 := by simpa using hii
            have HFM := hid (HF1.out.below hM)
            have HCM := hid (fun j hj => (hM.cell (p := ⟨g, j, none⟩) (World.block_lt_of_cell? _ _ (HCE.out j hj))).trans (HCE.out j hj))
            have hbl := hget_lt hgm
            have hrm := HF1.out.room
            have hgw : wM.heap.size ≤ 100000000000000000 ∨ True := .inr trivial
            have HGM := hid hgm
            clear hii hR hbm lc0 c0 c1 fR lcb0 hconv hgw HMS1 HCL hM hgm
            go_wp2_with (at_builtin; refine wpList_append_own_at _ rfl _ _ 23 rfl w.heap.size 33 im (.agg #[.int .u8 0, .string ⟨#[]⟩]) 2 24 Try.underlying23 him hm0 hm1 hm2 rfl (by decide) _ _ _ rfl HFM.out.row ⟨bm, 0, none⟩ 1 1 [.int .u8 (b0.toNat : Int), .string ⟨Y.toArray⟩] rfl rfl ?c1 ?c2 ?c3 ?c4 ?c5 ?_)
            case c1 =>
              intro j u hu
              match j, hu with
              | 0, hu => injection hu with hu; subst hu; exact cell_at HGM.out 0
              | 1, hu => injection hu with hu; subst hu; exact cell_at HGM.out 1
            case c2 => intro u hu; simp only [List.mem_cons, List.not_mem_nil, or_false] at hu; rcases hu with rfl | rfl <;> rfl
            case c3 => unfold maxLen; omega
            case c4 => omega
            case c5 => exact HFM.out.out.size
            intro v3 w3 hown3 hgr3 _ hat3
            have hrlt : ∀ j, (Value.slice a n c).ownBlock = some j → w.heap.size ≤ j := fun j e => (owns_lt HFM.out.row e).1
            have hgR3 := hget_grown HFM.out.rd.cells hgr3 (fun e => by have := hrlt R e.symm; omega)
            have hgg : (Value.slice a n c).ownBlock ≠ some g := fun e => HFM.out.far g e rfl
            have hC3 : ∀ j, j < l'.length → w3.cell? ⟨g, j, none⟩ = some (.int .u8 ((l'.getD j 0).toNat : Int)) := fun j hj =>
              (World.cell?_of_block (hgr3.block g (World.block_lt_of_cell? _ _ (HCM.out j hj)) (fun e => hgg e.symm))).trans (HCM.out j hj)
            have c0 : w3.cell? ⟨R, 0, none⟩ = some (.slice (some ⟨g, 0, none⟩) l'.length xc) := cell_at hgR3 0
            have fR := free_at hgR3
            obtain ⟨n5, hn5, hif5⟩ : ∃ n5, (4 + N < l'.length → n5 = 4 + N) ∧ (if xc = 4 + N then some (⟨g, 0, none⟩ : Addr) else some ⟨g, 4 + N, none⟩) = some ⟨g, n5, none⟩ := by
              by_cases h : xc = 4 + N
              · exact ⟨0, fun h5 => by omega, by rw [if_pos h]⟩
              · exact ⟨4 + N, fun _ => rfl, by rw [if_neg h]⟩
            obtain ⟨rest, hrest⟩ : ∃ r, l'.drop (4 + N) = r := ⟨_, rfl⟩
            have hrl : rest.length = l'.length - (4 + N) := by rw [← hrest, List.length_drop]
            have hsrc : Src Try.prog 1 30 (.slice (some ⟨g, n5, none⟩) (l'.length - (4 + N)) (xc - (4 + N))) rest.length (u8s rest) w3 := by
              rw [← hrl]
              refine Src.ofSlice (P := Try.prog) (size := 1) (w := w3) Try.underlying30 ⟨g, n5, none⟩ _ _ _ (by rw [u8s_length, Nat.mul_one]) (fun j u hu => ?_) (fun u hu => ?_)
              · have hj : j < rest.length := by have := (List.getElem?_eq_some_iff.1 hu).1; rwa [u8s_length] at this
                rw [Addr.add_mid, hn5 (by omega), hC3 _ (by omega), ← hu, ← hrest]
                unfold u8s
                rw [List.getElem?_map, List.getElem?_drop]
                have : 4 + N + j < l'.length := by omega
                simp [this]
              · unfold u8s at hu
                obtain ⟨x, _, rfl⟩ := List.mem_map.1 hu
                rfl
            have hnil2 : rest = [] → (Builtin.append_ #[30, 30] 30 #[.slice none 0 0, .slice (some ⟨g, n5, none⟩) (l'.length - (4 + N)) (xc - (4 + N))]).run Try.prog w3 = .ok (.slice none 0 0) w3 := fun e => by
              rw [← hrl, e]
              exact app_sl_nil w3 _ _
            have HS3 := hid hsrc
            have HN3 := hid hnil2
            have HO3 := hid hown3
            have HG3 := hid hgr3
            have HA3 := hid hat3
            have HR3 := hid hgR3
            have HGG := hid hgg
            have HRE := hid hrest
            have HRL := hid hrlt
            have hrl2 : rest.length ≤ 1000000 := by omega
            clear hsrc hnil2 hown3 hgr3 hat3 hgR3 hgg hrest hrlt hC3 hn5
            have hj1 : 4 + (N : Int) ≤ (l'.length : Int) := by omega
            have hj2 : (l'.length : Int) ≤ (xc : Int) := by omega
            have hj3 : 4 + N ≤ l'.length := by omega
            go_wp2_with (at_builtin; rw [hif5]; refine wpList_append_Q0 rfl _ _ 30 30 rfl i0 Try.underlying30 hi hz0 hz1 hz2 _ _ rfl rfl [] rest (.nil _) HS3.out HN3.out (by simp; omega) ?_)
            intro v4 w4 hq4 hg4 hn4
            obtain ⟨qa, qc, hqs, -⟩ := hq4.shape
            subst hqs
            have hgR4 := hget_grown HR3.out hg4 (fun e => by cases e)
            have c0' : w4.cell? ⟨R, 0, none⟩ = some (.slice (some ⟨g, 0, none⟩) l'.length xc) := cell_at hgR4 0
            have fR' := free_at hgR4
            have HQ4 := hid hq4
            have HG4 := hid hg4
            have HA4 := hid hn4
            have HR4 := hid hgR4
            clear hq4 hg4 hn4 hgR4 c0 fR
            go_wp2_with fail
            go_roundg (gk - 1)
            case measure => omega
            case rel =>
              have hq := HQ4.out
              rw [hrl] at hq
              have h34 : w3.heap.size ≤ w4.heap.size := HG4.out.size
              have hM3 : wM.heap.size ≤ w3.heap.size := HG3.out.size
              have hWM : w.heap.size ≤ wM.heap.size := HFM.out.out.size
              have hqb : ∀ j, (Value.slice qa (l'.length - (4 + N)) qc).ownBlock = some j → j = w3.heap.size := fun j e => by
                have h1 := HA4.out
                rw [hrl] at h1
                rcases h1 with h1 | h1
                · rw [h1] at e; cases e
                · rw [h1] at e; exact (Option.some.inj e).symm
              have hnR : (Value.slice qa (l'.length - (4 + N)) qc).ownBlock ≠ some R := fun e => by have := hqb R e; omega
              have ho3 : Out (fun j => w.heap.size ≤ j) wM w3 := Out.of_grown HG3.out (fun j e => HRL.out j e)
              have ho4 : Out (fun _ => False) w3 w4 := Out.of_grown HG4.out (fun j e => by cases e)
              have ho5 : Out (fun j => j = R) w4 (w4.setCell ⟨R, 0, none⟩ (.slice qa (l'.length - (4 + N)) qc)) := Out.setCell (Out.refl (fun j => j = R) w4) (.inl rfl) _
              refine ⟨ms ++ [(b0, Y)], .slice qa (l'.length - (4 + N)) qc, rest, false, by simp; omega, ⟨?_, ?_, ⟨hget_setCell HR4.out 0 _, hq.keep fun g o hg ho => hget_setCell_ne ho (fun e => hnR (by rw [hg]; exact congrArg some e)) _, hnR⟩, ?_, ?_, ?_, hlt, ?_⟩⟩
              · have h1 := HF1.out.told
                rw [HE.feedL_step h4 (by rw [HN.out]; exact hN1) (by rw [HN.out]; exact hN2), HN.out, HRE.out, HY.out, HB0.out] at h1
                simpa using h1
              · have h1 := owns_out (owns_out HO3.out ho4 (fun j hj e => e)) ho5 (fun j hj e => by omega)
                rw [List.length_append, List.length_singleton, msgVs_append]
                exact h1
              · intro j e e2
                have h1 := (owns_lt HO3.out e).2
                have h2 := hqb j e2
                omega
              · exact ((HFM.out.out.trans ho3 (fun j hj e => by omega)).trans ho4 (fun j _ e => e.elim)).trans ho5 (fun j _ e => .inl e)
              · exact .inr fun j e => by have := hqb j e; omega
              · rw [List.length_append, List.length_singleton]; omega
end
end Go.Proofs.Ytliblhfabnjpkaa

namespace Go.Proofs.Ytliblhfabnjpkaa
open Go Go.RowKit
def suitesL (l : List Nat) : List UInt8 := l.flatMap (be 2)
def extL (l : List (Nat × List UInt8)) : List UInt8 := l.flatMap fun x => be 2 x.1 ++ (be 2 x.2.length ++ x.2)
/-- The body of a hello. -/
def clientL (rnd ses : List UInt8) (su : List Nat) (l : List (Nat × List UInt8)) : List UInt8 :=
  ((((be 2 771 ++ rnd) ++ (be 1 ses.length ++ ses)) ++ (be 2 (suitesL su).length ++ suitesL su)) ++ [1, 0]) ++ (be 2 (extL l).length ++ extL l)
theorem be2 (x : Nat) : (be 2 x).length = 2 := be_length 2 x
theorem suitesL_length (l : List Nat) : (suitesL l).length = 2 * l.length := by
  induction l with
  | nil => rfl
  | cons a l ih => rw [show suitesL (a :: l) = be 2 a ++ suitesL l from rfl, List.length_append, ih, be2, List.length_cons]; omega
theorem extL_take (l : List (Nat × List UInt8)) (k : Nat) : (extL (l.take k)).length ≤ (extL l).length := by
  have : extL l = extL (l.take k) ++ extL (l.drop k) := by unfold extL; rw [← List.flatMap_append, List.take_append_drop]
  rw [this, List.length_append]; omega
theorem ext_size {l : List (Nat × List UInt8)} {k : Nat} {x : Nat × List UInt8} (h : l[k]? = some x) : x.2.length ≤ (extL l).length := by
  have h1 := extL_take l (k + 1)
  rw [List.take_add_one, h] at h1
  have : extL (l.take k ++ (some x).toList) = extL (l.take k) ++ (be 2 x.1 ++ (be 2 x.2.length ++ x.2)) := by simp [extL]
  rw [this] at h1
  simp only [List.length_append] at h1
  omega
section
variable {w : World}
set_option maxHeartbeats 2000000 in
theorem rclient_any (rnd ses : List UInt8) (su : List Nat) (l : List (Nat × List UInt8)) (gS gE cS cE : Nat) (hS : ∀ (k : Nat) (x : Nat), su[k]? = some x → w.cell? ⟨gS, k, none⟩ = some (.int .u16 (x : Int)))
    (hE : ∀ (k : Nat) (x : Nat × List UInt8), l[k]? = some x → w.cell? ⟨gE, k * 2, none⟩ = some (.int .u16 (x.1 : Int)) ∧ w.cell? ⟨gE, k * 2 + 1, none⟩ = some (.string ⟨x.2.toArray⟩)) (hr : rnd.length ≤ 100000) (hs : ses.length ≤ 100000) (hsu : su.length ≤ 100000) (hl : l.length ≤ 100000) (hx : (extL l).length ≤ 100000)
    (hgS : gS < w.heap.size) (hgE : gE < w.heap.size) (hk : ∀ x ∈ l, x.1 < 65536) (hk2 : ∀ x ∈ su, x < 65536) :
    Calls Try.prog 56 #[.string ⟨rnd.toArray⟩, .string ⟨ses.toArray⟩, .slice (some ⟨gS, 0, none⟩) su.length cS, .slice (some ⟨gE, 0, none⟩) l.length cE] w fun e w' => Below w.heap.size w w' ∧ e = .returned (.string ⟨(clientL rnd ses su l).toArray⟩) := by
  have HS := hid hS
  have HE := hid hE
  have HK := hid hk
  have HK2 := hid hk2
  clear hS hE hk hk2
  go_enter Try.func56, Try.ntmps56
  go_wp2_with fail
  go_loopw [9, 10] (fun s i wr => ∃ k : Nat, k ≤ su.length ∧ i = .int .i64 (k : Int) ∧ s = .string ⟨(suitesL (su.take k)).toArray⟩ ∧ Below w.heap.size w wr) (fun _ i _ => (su.length - intOf i).toNat)
  case atStart => exact ⟨0, Nat.zero_le _, rfl, rfl, Below.refl _ _⟩
  case round =>
    obtain ⟨k, hk, rfl, rfl, hb⟩ := hrel
    by_cases hkn : k < su.length
    · have dk : decide ((k : Int) < (su.length : Int)) = true := decide_eq_true (by omega)
      have hx : su[k]? = some su[k] := List.getElem?_eq_getElem hkn
      have c0 : wr.cell? ⟨gS, k, none⟩ = some (.int .u16 (su[k] : Int)) := (hb.cell (p := ⟨gS, k, none⟩) hgS).trans (HS.out _ _ hx)
      have hlt := HK2.out _ (List.getElem_mem hkn)
      have hN := rnum_any (w := wr) su[k] 2 (by omega) (by omega)
      have hst := str_app (suitesL (su.take k)) (be 2 su[k])
      have hst2 : suitesL (su.take k) ++ be 2 su[k] = suitesL (su.take (k + 1)) := by rw [List.take_succ_eq_append_getElem hkn]; unfold suitesL; rw [List.flatMap_append, List.flatMap_cons, List.flatMap_nil, List.append_nil]
      rw [hst2] at hst
      have hi0 : 0 ≤ (k : Int) := by omega
      have hi1 : (k : Int) < (su.length : Int) := by omega
      have hs1 : (⟨(suitesL (su.take k)).toArray⟩ : ByteArray).size = 2 * k := by simp [ByteArray.size, suitesL_length, Nat.min_eq_left (Nat.le_of_lt hkn)]
      have hs2 : (⟨(be 2 su[k]).toArray⟩ : ByteArray).size = 2 := by simp [ByteArray.size, be_length]
      generalize su[k] = x at *
      obtain ⟨S, hS⟩ : ∃ S, (⟨(suitesL (su.take k)).toArray⟩ : ByteArray) = S := ⟨_, rfl⟩
      obtain ⟨D, hD⟩ : ∃ D, (⟨(be 2 x).toArray⟩ : ByteArray) = D := ⟨_, rfl⟩
      rw [hS] at hs1 hst ⊢
      rw [hD] at hs2 hst hN
      have HB := hid hb
      have HN := hid hN
      have HST := hid hst
      clear hS hD hb hN hst hst2 hx
      have hN2 : Calls Try.prog 55 #[.int .i64 (x : Int), .int .i64 2] wr fun e w' => Below wr.heap.size wr w' ∧ e = .returned (.string D) := HN.out
      have HN := hid hN2
      clear hN2
      go_wp2_with fail
      refine HN.out.mono ?_
      rintro e w1 ⟨b1, rfl⟩
      have HB1 := hid (below_to HB.out b1)
      clear b1
      go_wp2_with fail
      exact ⟨⟨k + 1, by omega, by go_num, by rw [HST.out], HB1.out⟩, by simp only [intOf]; omega⟩
    · have dk : decide ((k : Int) < (su.length : Int)) = false := decide_eq_false (by omega)
      obtain rfl : k = su.length := by omega
      rw [List.take_length]
      have HB := hid hb
      clear hb
      go_wp2_with fail
      go_loopw [11, 12] (fun s i wr => ∃ k : Nat, k ≤ l.length ∧ i = .int .i64 (k : Int) ∧ s = .string ⟨(extL (l.take k)).toArray⟩ ∧ Below w.heap.size w wr) (fun _ i _ => (l.length - intOf i).toNat)
      case atStart => exact ⟨0, Nat.zero_le _, rfl, rfl, HB.out⟩
      case round =>
        clear HB
        obtain ⟨k, hk, rfl, rfl, hb⟩ := hrel
        by_cases hkn : k < l.length
        · have dk : decide ((k : Int) < (l.length : Int)) = true := decide_eq_true (by omega)
          have hxk : l[k]? = some l[k] := List.getElem?_eq_getElem hkn
          obtain ⟨ce0, ce1⟩ := HE.out _ _ hxk
          have c0 : wr.cell? ⟨gE, k * 2, none⟩ = some (.int .u16 (l[k].1 : Int)) := (hb.cell (p := ⟨gE, k * 2, none⟩) hgE).trans ce0
          have c1 : wr.cell? ⟨gE, k * 2 + 1, none⟩ = some (.string ⟨l[k].2.toArray⟩) := (hb.cell (p := ⟨gE, k * 2 + 1, none⟩) hgE).trans ce1
          have hlt := HK.out _ (List.getElem_mem hkn)
          have hxs := ext_size hxk
          have htk := extL_take l k
          have hst2 : extL (l.take k) ++ be 2 l[k].1 ++ (be 2 l[k].2.length ++ l[k].2) = extL (l.take (k + 1)) := by rw [List.take_succ_eq_append_getElem hkn]; unfold extL; rw [List.flatMap_append, List.flatMap_cons, List.flatMap_nil, List.append_nil, List.append_assoc]
          generalize l[k] = x at *
          obtain ⟨x1, x2⟩ := x
          simp only [] at c0 c1 hlt hxs hst2
          have hN : ∀ w1 : World, Calls Try.prog 55 #[.int .i64 (x1 : Int), .int .i64 2] w1 fun e w' => e = .returned (.string ⟨(be 2 x1).toArray⟩) ∧ Below w1.heap.size w1 w' := fun w1 => (rnum_any (w := w1) x1 2 (by omega) (by omega)).mono fun _ _ h => ⟨h.2, h.1⟩
          have hL : ∀ w1 : World, Calls Try.prog 50 #[.string ⟨x2.toArray⟩, .int .i64 2] w1 fun e w' => e = .returned (.string ⟨(be 2 x2.length ++ x2).toArray⟩) ∧ Below w1.heap.size w1 w' := fun w1 => (rlist_any (w := w1) x2 2 (by omega) (by omega)).mono fun _ _ h => ⟨h.2, h.1⟩
          have hst := str_app (extL (l.take k) ++ be 2 x1) (be 2 x2.length ++ x2)
          rw [hst2, ← str_app] at hst
          have hs1 : (⟨(extL (l.take k)).toArray⟩ : ByteArray).size = (extL (l.take k)).length := by simp [ByteArray.size]
          have hs2 : (⟨(be 2 x1).toArray⟩ : ByteArray).size = 2 := by simp [ByteArray.size, be_length]
          have hs3 : (⟨(be 2 x2.length ++ x2).toArray⟩ : ByteArray).size = 2 + x2.length := by simp [ByteArray.size, be_length]
          obtain ⟨S, hS⟩ : ∃ S, (⟨(extL (l.take k)).toArray⟩ : ByteArray) = S := ⟨_, rfl⟩
          obtain ⟨D, hD⟩ : ∃ D, (⟨(be 2 x1).toArray⟩ : ByteArray) = D := ⟨_, rfl⟩
          obtain ⟨D2, hD2⟩ : ∃ D, (⟨(be 2 x2.length ++ x2).toArray⟩ : ByteArray) = D := ⟨_, rfl⟩
          obtain ⟨X, hX⟩ : ∃ D, (⟨x2.toArray⟩ : ByteArray) = D := ⟨_, rfl⟩
          rw [hS] at hs1 hst ⊢
          rw [hD] at hs2 hst
          rw [hD2] at hs3 hst
          rw [hX] at c1
          simp only [hD] at hN
          simp only [hD2, hX] at hL
          have hi0 : 0 ≤ (k : Int) := by omega
          have hi1 : (k : Int) < (l.length : Int) := by omega
          have HN := hid hN
          have HL := hid hL
          have HST := hid hst
          have HB := hid hb
          have lc0 := later_cell c0
          have lc1 := later_cell c1
          have hm : S.size ≤ 100000 ∧ x2.length ≤ 100000 := by omega
          obtain ⟨hm1, hm2⟩ := hm
          clear hS hD hD2 hX hb hN hL hst hst2 hxk ce0 ce1 hs hsu hr hx
          go_wp2_with fail
          refine wp_region_later (by kernel_rfl) (by kernel_rfl) ?_
          repeat ((go_big_quiet_step ((first | (go_at_call 55; with_reducible exact calls_later (HN.out _)) | (go_at_call 50; with_reducible exact calls_later (HL.out _))))))
          refine wpQuiet_nil ?_
          intro wL hwL
          obtain ⟨⟨w8, hL⟩, e8⟩ := hwL
          change wL = w8 at e8
          subst e8
          have HB1 := hid (below_to HB.out hL)
          clear hL lc0 lc1 c0 c1
          go_wp2_with fail
          exact ⟨⟨k + 1, by omega, by go_num, by rw [HST.out], HB1.out⟩, by simp only [intOf]; omega⟩
        · have dk : decide ((k : Int) < (l.length : Int)) = false := decide_eq_false (by omega)
          obtain rfl : k = l.length := by omega
          rw [List.take_length]
          have HB := hid hb
          clear hb HS HE HK HK2 dk
          have hN : ∀ w1 : World, Calls Try.prog 55 #[.int .i64 771, .int .i64 2] w1 fun e w' => Below w1.heap.size w1 w' ∧ e = .returned (.string ⟨(be 2 771).toArray⟩) := fun w1 => rnum_any (w := w1) 771 2 (by omega) (by omega)
          have hL1 : ∀ w1 : World, Calls Try.prog 50 #[.string ⟨ses.toArray⟩, .int .i64 1] w1 fun e w' => Below w1.heap.size w1 w' ∧ e = .returned (.string ⟨(be 1 ses.length ++ ses).toArray⟩) := fun w1 => rlist_any (w := w1) ses 1 (by omega) (by omega)
          have hsl := suitesL_length su
          have hL2 : ∀ w1 : World, Calls Try.prog 50 #[.string ⟨(suitesL su).toArray⟩, .int .i64 2] w1 fun e w' => Below w1.heap.size w1 w' ∧ e = .returned (.string ⟨(be 2 (suitesL su).length ++ suitesL su).toArray⟩) := fun w1 => rlist_any (w := w1) (suitesL su) 2 (by omega) (by omega)
          have hL3 : ∀ w1 : World, Calls Try.prog 50 #[.string ⟨(extL l).toArray⟩, .int .i64 2] w1 fun e w' => Below w1.heap.size w1 w' ∧ e = .returned (.string ⟨(be 2 (extL l).length ++ extL l).toArray⟩) := fun w1 => rlist_any (w := w1) (extL l) 2 (by omega) (by omega)
          have hst : (⟨(clientL rnd ses su l).toArray⟩ : ByteArray) = ⟨(be 2 771).toArray⟩ ++ ⟨rnd.toArray⟩ ++ ⟨(be 1 ses.length ++ ses).toArray⟩ ++ ⟨(be 2 (suitesL su).length ++ suitesL su).toArray⟩ ++ ⟨#[1, 0]⟩ ++ ⟨(be 2 (extL l).length ++ extL l).toArray⟩ := by
            unfold clientL
            rw [← str_app, ← str_app, ← str_app, ← str_app, ← str_app]
          have z1 : (⟨(be 2 771).toArray⟩ : ByteArray).size = 2 := rfl
          have z2 : (⟨rnd.toArray⟩ : ByteArray).size = rnd.length := by simp [ByteArray.size]
          have z3 : (⟨(be 1 ses.length ++ ses).toArray⟩ : ByteArray).size = 1 + ses.length := by simp [ByteArray.size, be_length]
          have z4 : (⟨(be 2 (suitesL su).length ++ suitesL su).toArray⟩ : ByteArray).size = 2 + 2 * su.length := by simp [ByteArray.size, be_length, suitesL_length]
          have z5 : (⟨(be 2 (extL l).length ++ extL l).toArray⟩ : ByteArray).size = 2 + (extL l).length := by simp [ByteArray.size, be_length]
          obtain ⟨X1, h1⟩ : ∃ X, (⟨(be 2 771).toArray⟩ : ByteArray) = X := ⟨_, rfl⟩
          obtain ⟨X2, h2⟩ : ∃ X, (⟨rnd.toArray⟩ : ByteArray) = X := ⟨_, rfl⟩
          obtain ⟨X3, h3⟩ : ∃ X, (⟨(be 1 ses.length ++ ses).toArray⟩ : ByteArray) = X := ⟨_, rfl⟩
          obtain ⟨X4, h4⟩ : ∃ X, (⟨(be 2 (suitesL su).length ++ suitesL su).toArray⟩ : ByteArray) = X := ⟨_, rfl⟩
          obtain ⟨X5, h5⟩ : ∃ X, (⟨(be 2 (extL l).length ++ extL l).toArray⟩ : ByteArray) = X := ⟨_, rfl⟩
          obtain ⟨Y1, h6⟩ : ∃ X, (⟨(suitesL su).toArray⟩ : ByteArray) = X := ⟨_, rfl⟩
          obtain ⟨Y2, h7⟩ : ∃ X, (⟨(extL l).toArray⟩ : ByteArray) = X := ⟨_, rfl⟩
          obtain ⟨Y3, h8⟩ : ∃ X, (⟨ses.toArray⟩ : ByteArray) = X := ⟨_, rfl⟩
          rw [h1, h2, h3, h4, h5] at hst
          rw [h1] at z1
          rw [h2] at z2
          rw [h3] at z3
          rw [h4] at z4
          rw [h5] at z5
          simp only [h1] at hN
          simp only [h3, h8] at hL1
          simp only [h4, h6] at hL2
          simp only [h5, h7] at hL3
          rw [h2, h6, h7, h8]
          have HST := hid hst
          have HN := hid hN
          have HL1 := hid hL1
          have HL2 := hid hL2
          have HL3 := hid hL3
          clear h1 h2 h3 h4 h5 h6 h7 h8 hst hN hL1 hL2 hL3 hk hkn hsl
          go_wp2_with fail
          refine (HN.out _).mono ?_
          rintro e w1 ⟨b1, rfl⟩
          have HB1 := hid (below_to HB.out b1)
          clear b1 HB
          go_wp2_with fail
          refine (HL1.out _).mono ?_
          rintro e w2 ⟨b1, rfl⟩
          have HB := hid (below_to HB1.out b1)
          clear b1 HB1
          go_wp2_with fail
          refine (HL2.out _).mono ?_
          rintro e w3 ⟨b1, rfl⟩
          have HB1 := hid (below_to HB.out b1)
          clear b1 HB
          go_wp2_with fail
          refine (HL3.out _).mono ?_
          rintro e w4 ⟨b1, rfl⟩
          have HB := hid (below_to HB1.out b1)
          clear b1 HB1
          go_wp2_with fail
          go_ret
          exact ⟨HB.out, by rw [HST.out]; rfl⟩
end
end Go.Proofs.Ytliblhfabnjpkaa

namespace Go.Proofs.Ytliblhfabnjpkaa
open Go Go.RowKit
theorem u8V_made (n : Nat) : madeCells #[.int .u8 0] n = (u8s (List.replicate n 0)).toArray := by
  refine Array.ext (by simp [size_madeCells, u8s]) fun j h1 h2 => ?_
  simp [madeCells, u8s, Nat.mod_one]
def z32 : List UInt8 := List.replicate 32 0
def cliX : List (Nat × List UInt8) := [(43, [2, 3, 4]), (10, [0, 2, 0, 29]), (13, [0, 2, 8, 7]), (51, [0, 36, 0, 29, 0, 32] ++ z32)]
def cliL : List UInt8 := clientL z32 [] [4867] cliX
def cliE (s : ByteArray) : Array Value := #[.int .u16 43, .string ⟨#[2, 3, 4]⟩, .int .u16 10, .string ⟨#[0, 2, 0, 29]⟩, .int .u16 13, .string ⟨#[0, 2, 8, 7]⟩, .int .u16 51, .string s]
section
variable {w : World}
/-- What the operations that make memory leave. -/
def CliRel (p : Nat) (u : Value) (w : World) : Prop := ∃ b n o, u = .slice (some ⟨b, 0, none⟩) n n ∧ hget w b = some o ∧
  (n, o) = if p = 2 then (1, .cells #[.int .u16 4867] 56 (0, 0)) else if p = 10 then (4, .cells (cliE ⟨([0, 36, 0, 29, 0, 32] ++ z32).toArray⟩) 100 (0, 0)) else (32, .cells (u8s z32).toArray 5 (0, 0))
theorem CliRel.keep (p : Nat) (u : Value) (w w' : World) (h : CliRel p u w) (hb : Below w.heap.size w w') : CliRel p u w' := by
  obtain ⟨b, n, o, h1, h2, h3⟩ := h
  exact ⟨b, n, o, h1, keepB hb h2, h3⟩
theorem CliRel.z {p : Nat} {u : Value} {w : World} (h : CliRel p u w) (h2 : p ≠ 2) (h10 : p ≠ 10) : ∃ b, u = .slice (some ⟨b, 0, none⟩) 32 32 ∧ hget w b = some (.cells (u8s z32).toArray 5 (0, 0)) := by
  obtain ⟨b, n, o, h1, h3, h4⟩ := h
  rw [if_neg h2, if_neg h10] at h4
  injection h4 with e1 e2
  subst e1 e2
  exact ⟨b, h1, h3⟩
theorem CliRel.s {u : Value} {w : World} (h : CliRel 2 u w) : ∃ b, u = .slice (some ⟨b, 0, none⟩) 1 1 ∧ hget w b = some (.cells #[.int .u16 4867] 56 (0, 0)) := by
  obtain ⟨b, n, o, h1, h3, h4⟩ := h
  rw [if_pos rfl] at h4
  injection h4 with e1 e2
  subst e1 e2
  exact ⟨b, h1, h3⟩
theorem CliRel.e {u : Value} {w : World} (h : CliRel 10 u w) : ∃ b, u = .slice (some ⟨b, 0, none⟩) 4 4 ∧ hget w b = some (.cells (cliE ⟨([0, 36, 0, 29, 0, 32] ++ z32).toArray⟩) 100 (0, 0)) := by
  obtain ⟨b, n, o, h1, h3, h4⟩ := h
  rw [if_neg (by decide), if_pos rfl] at h4
  injection h4 with e1 e2
  subst e1 e2
  exact ⟨b, h1, h3⟩
theorem z32_conv {w : World} {b : Nat} (h : hget w b = some (.cells (u8s z32).toArray 5 (0, 0))) : (convert 30 9 (.slice (some ⟨b, 0, none⟩) 32 32)).run Try.prog w = .ok (.string ⟨z32.toArray⟩) w :=
  conv_q (l := z32) (.inr ⟨b, 32, _, rfl, h, by decide, by decide, by decide, by rw [show z32.length = (u8s z32).length by rw [u8s_length]]; exact List.take_length⟩) (by decide)
set_option maxRecDepth 100000 in
set_option maxHeartbeats 2000000 in
theorem client_any : Calls Try.prog 31 #[] w fun e w' => Below w.heap.size w w' ∧ e = .returned (.string ⟨cliL.toArray⟩) := by
  have hmk : ∀ w : World, (Instr.makeSlice 30 (.int .i64 32) (.int .i64 32)).run Try.prog w = .ok (.slice (some ⟨w.heap.size, 0, none⟩) 32 32) (w.alloc (.cells (u8s z32).toArray 5)) := fun w => by
    have := run_make_row' (P := Try.prog) 30 5 (.int .u8 0) 1 Try.underlying30 info_u8 rfl .i64 .i64 32 (by omega) (by omega) w
    rw [u8V_made] at this
    exact this
  have hz : (⟨z32.toArray⟩ : ByteArray).size = 32 := rfl
  have hst := str_app [0, 36, 0, 29, 0, 32] z32
  obtain ⟨Z, hZ⟩ : ∃ Z, (⟨z32.toArray⟩ : ByteArray) = Z := ⟨_, rfl⟩
  obtain ⟨Y, hY⟩ : ∃ Z, (⟨([0, 36, 0, 29, 0, 32] ++ z32).toArray⟩ : ByteArray) = Z := ⟨_, rfl⟩
  rw [hZ] at hz hst
  rw [hY] at hst
  go_enter Try.func31, Try.ntmps31
  go_wp2_with fail
  refine wp_region_gho_tail 11 [0, 2, 6, 10] (CliRel) (by kernel_rfl) (by kernel_rfl) (by kernel_rfl) (by kernel_rfl) (CliRel.keep) ?_
  simp only [List.take_succ_cons, List.take_zero, List.drop_succ_cons, List.drop_zero]
  repeat (first | (refine wpGho_plain (by kernel_rfl) (by decide) (by rfl) (by rfl) (fun K hK => ?_); go_simp; refine hK _ ?_; clear hK K; try go_ints))
  refine wpGho_make (by kernel_rfl) (by decide) (by rfl) (by rfl) (by rfl) (fun K hK => ?_)
  go_simp
  refine ⟨fun x => ⟨below_new _, ⟨_, _, _, rfl, alloc_at _ _, rfl⟩⟩, hK _ ?_⟩
  clear hK K
  refine wpGho_read (by decide) (by rfl) (fun K hK => ?_)
  refine ⟨.string Z, fun g x hR => ?_, hK _ ?_⟩
  · have h8 : CliRel 0 (g 0) x.w' := hR 0 (by decide) (by kernel_rfl)
    clear hR
    obtain ⟨b8, hb8, hc8⟩ := h8.z (by decide) (by decide)
    rw [show ∀ a, over _ [0, 2, 6, 10] g a = Act.put (Act.put (Act.put (Act.put a (some 1) (g 0)) (some 3) (g 2)) (some 7) (g 6)) (some 11) (g 10) from fun _ => rfl, hb8]
    have cv := z32_conv hc8
    rw [hZ] at cv
    go_simp
    done
  clear hK K
  try simp only [Act.put, List.setIfInBounds_toArray, List.set_cons_zero, List.set_cons_succ]
  refine wpGho_make (by kernel_rfl) (by decide) (by rfl) (by rfl) (by rfl) (fun K hK => ?_)
  go_simp
  refine ⟨fun x => ⟨below_new _, ⟨_, _, _, rfl, alloc_at _ _, rfl⟩⟩, hK _ ?_⟩
  clear hK K
  try simp only [Act.put, List.setIfInBounds_toArray, List.set_cons_zero, List.set_cons_succ]
  repeat (first | (refine wpGho_plain (by kernel_rfl) (by decide) (by rfl) (by rfl) (fun K hK => ?_); go_simp; refine hK _ ?_; clear hK K; try go_ints))
  refine wpGho_make (by kernel_rfl) (by decide) (by rfl) (by rfl) (by rfl) (fun K hK => ?_)
  go_simp
  refine ⟨fun x => ⟨below_new _, ⟨_, _, _, rfl, alloc_at _ _, rfl⟩⟩, hK _ ?_⟩
  clear hK K
  try simp only [Act.put, List.setIfInBounds_toArray, List.set_cons_zero, List.set_cons_succ]
  refine wpGho_read (by decide) (by rfl) (fun K hK => ?_)
  refine ⟨.string Z, fun g x hR => ?_, hK _ ?_⟩
  · have h8 : CliRel 6 (g 6) x.w' := hR 6 (by decide) (by kernel_rfl)
    clear hR
    obtain ⟨b8, hb8, hc8⟩ := h8.z (by decide) (by decide)
    rw [show ∀ a, over _ [0, 2, 6, 10] g a = Act.put (Act.put (Act.put (Act.put a (some 1) (g 0)) (some 3) (g 2)) (some 7) (g 6)) (some 11) (g 10) from fun _ => rfl, hb8]
    have cv := z32_conv hc8
    rw [hZ] at cv
    go_simp
    done
  clear hK K
  try simp only [Act.put, List.setIfInBounds_toArray, List.set_cons_zero, List.set_cons_succ]
  repeat (first | (refine wpGho_plain (by kernel_rfl) (by decide) (by rfl) (by rfl) (fun K hK => ?_); go_simp; refine hK _ ?_; clear hK K; try go_ints))
  refine wpGho_make (by kernel_rfl) (by decide) (by rfl) (by rfl) (by rfl) (fun K hK => ?_)
  go_simp
  refine ⟨fun x => ⟨below_new _, ⟨_, _, _, rfl, alloc_at _ _, by rw [← hY]; rfl⟩⟩, hK _ ?_⟩
  clear hK K
  try simp only [Act.put, List.setIfInBounds_toArray, List.set_cons_zero, List.set_cons_succ]
  refine wpGho_nil ?_
  intro g wM hwM hR
  obtain ⟨⟨w8, hM⟩, e8⟩ := hwM
  change wM = w8 at e8
  subst e8
  have r0 : CliRel 0 (g 0) wM := hR 0 (by decide)
  have r2 : CliRel 2 (g 2) wM := hR 2 (by decide)
  have r6 : CliRel 6 (g 6) wM := hR 6 (by decide)
  have r10 : CliRel 10 (g 10) wM := hR 10 (by decide)
  obtain ⟨b0, e0, _⟩ := r0.z (by decide) (by decide)
  obtain ⟨b6, e6, _⟩ := r6.z (by decide) (by decide)
  obtain ⟨b2, e2, h2⟩ := r2.s
  obtain ⟨b10, e10, h10⟩ := r10.e
  rw [show ∀ a, over _ [0, 2, 6, 10] g a = Act.put (Act.put (Act.put (Act.put a (some 1) (g 0)) (some 3) (g 2)) (some 7) (g 6)) (some 11) (g 10) from fun _ => rfl, e0, e2, e6, e10]
  simp only [Act.put, List.setIfInBounds_toArray, List.set_cons_zero, List.set_cons_succ]
  have hcl := rclient_any (w := wM) z32 [] [4867] cliX b2 b10 1 4 (fun k x hx => by
      match k, hx with
      | 0, hx => injection hx with hx; subst hx; exact cell_at h2 0) (fun k x hx => by
      match k, hx with
      | 0, hx => injection hx with hx; subst hx; exact ⟨cell_at h10 0, cell_at h10 1⟩
      | 1, hx => injection hx with hx; subst hx; exact ⟨cell_at h10 2, cell_at h10 3⟩
      | 2, hx => injection hx with hx; subst hx; exact ⟨cell_at h10 4, cell_at h10 5⟩
      | 3, hx => injection hx with hx; subst hx; exact ⟨cell_at h10 6, cell_at h10 7⟩) (by decide) (by decide) (by decide) (by decide) (by decide) (hget_lt h2) (hget_lt h10) (by decide) (by decide)
  have hcl2 : Calls Try.prog 56 #[.string Z, .string ⟨#[]⟩, .slice (some ⟨b2, 0, none⟩) 1 1, .slice (some ⟨b10, 0, none⟩) 4 4] wM fun e w' => Below wM.heap.size wM w' ∧ e = .returned (.string ⟨cliL.toArray⟩) := hZ ▸ hcl
  have HCL := hid hcl2
  have HM := hid hM
  clear hcl hcl2 hM hR r0 r2 r6 r10 e0 e2 e6 e10 h2 h10 hmk hz hZ hst hY
  go_wp2_with fail
  refine HCL.out.mono ?_
  rintro e w9 ⟨hb, rfl⟩
  have HB := hid (below_to HM.out hb)
  clear hb
  go_wp2_with fail
  go_ret
  exact ⟨HB.out, rfl⟩
end
end Go.Proofs.Ytliblhfabnjpkaa

namespace Go.Proofs.Ytliblhfabnjpkaa
open Go Go.RowKit
attribute [local go_sem ↓] exl_Hello exs_Hello
                 attribute [local go_sem] ldr_Hello str_Hello
def cliOk : Bool := match HE.parse cliL with
  | .ok h => (HE.choose h).1.length == 32 && (HE.choose h).2.1 == false && (HE.choose h).2.2 == 0
  | .error _ => false
theorem cliOk_true : cliOk = true := by decide +kernel
theorem cli_parse : ∃ h s, HE.parse cliL = .ok h ∧ HE.choose h = (s, false, 0) ∧ s.length = 32 := by
  have h := cliOk_true
  unfold cliOk at h
  cases hp : HE.parse cliL with
  | error c => rw [hp] at h; cases h
  | ok g =>
    rw [hp] at h
    simp only [Bool.and_eq_true, beq_iff_eq] at h
    exact ⟨g, (HE.choose g).1, rfl, by rw [← h.1.2, ← h.2], h.1.1⟩
theorem empty_parse : HE.parse [] = .error 270 := rfl
theorem frameL_ab : frameL 20 [97, 98] = [20, 0, 0, 2, 97, 98] := by decide
theorem ab_frame : HE.feedL [20, 0, 0, 2, 97, 98] = ([(20, [97, 98])], [], false) := by decide
theorem read_zero (w : World) : HRd w helZ (.slice none 0 0) (.slice none 0 0) (.slice none 0 0) (.slice none 0 0) (.slice none 0 0) (.slice none 0 0) := by
  have n : NumsAt w (.slice none 0 0) [] := ⟨none, 0, rfl, by simp, fun k x h => by cases h⟩
  exact ⟨n, n, n, n, ⟨none, 0, rfl, fun k x h => by cases h⟩, n, Nat.zero_le _, Nat.zero_le _, Nat.zero_le _, Nat.zero_le _, Nat.zero_le _⟩
theorem choose_zero (w : World) : Calls Try.prog 14 #[.agg zcells] w fun e w' => Below w.heap.size w w' ∧ e = .returned (.tuple #[.string ⟨#[]⟩, .bool false, .int .i64 273]) := by
  have h := choose_any (read_zero w)
  rw [zcells_hel]
  exact h
section
variable {W : World}
set_option maxRecDepth 100000 in
set_option maxHeartbeats 8000000 in
theorem alive_any : Calls Try.prog 10 #[] W fun e w' => e = .returned (.bool true) ∧ Below W.heap.size W w' := by
  have hfr : Calls Try.prog 16 #[.agg #[.int .u8 20, .string ⟨#[97, 98]⟩]] W fun e w' => Below W.heap.size W w' ∧ e = .returned (.tuple #[.string ⟨#[20, 0, 0, 2, 97, 98]⟩, .int .i64 0]) := by
    have h := frame_yes (w := W) 20 [97, 98] (by decide)
    rw [frameL_ab] at h
    exact h
  go_enter Try.func10, Try.ntmps10
  go_wp2_with fail
  refine hfr.mono ?_
  rintro e w1 ⟨hb1, rfl⟩
  have B1 := hid hb1
  clear hb1
  go_wp2_with fail
  refine newr_any.mono ?_
  rintro e w2 ⟨hb2, rfl, hrd⟩
  have B2 := hid (below_to B1.out hb2)
  have hfd : Calls Try.prog 9 #[.pointer (some ⟨w1.heap.size, 0, none⟩), .string ⟨#[20, 0, 0, 2, 97, 98]⟩] w2 (FeedV w2 w1.heap.size (.slice none 0 0) [20, 0, 0, 2, 97, 98]) := by
    have h := feed_any [20, 0, 0, 2, 97, 98] hrd (fun j e => by cases e) (by simp)
    rw [List.nil_append] at h
    exact h
  have hR := B1.out.size
  have HFD := hid hfd
  have HS2 := hid hb2.size
  clear hb2 hfd hfr
  go_wp2_with fail
  refine HFD.out.mono ?_
  rintro e w3 ⟨mv, b, rfl, hms, -, ho, -⟩
  rw [ab_frame] at hms ⊢
  simp only [Bool.false_eq_true, if_false]
  have B3 := hid (B2.out.trans (ho.below (B := W.heap.size) (fun k e => by rcases e with e | e; omega; cases e) B2.out.size))
  rcases hms with ⟨-, hms⟩ | ⟨g, cap, rfl, -, hgl, hms⟩
  · cases hms
  obtain ⟨cm0, cm1⟩ := hms 0 _ rfl
  change w3.cell? ⟨g, 0, none⟩ = some (.int .u8 20) at cm0
  change w3.cell? ⟨g, 1, none⟩ = some (.string ⟨#[97, 98]⟩) at cm1
  have HC0 := hid cm0
  have HC1 := hid cm1
  clear hms hrd ho HFD HS2 B2 B1 cm0 cm1 hR
  go_wp2_with fail
  refine client_any.mono ?_
  rintro e w4 ⟨hb4, rfl⟩
  have B4 := hid (below_to B3.out hb4)
  have C0 := hid ((hb4.cell (p := ⟨g, 0, none⟩) hgl).trans HC0.out)
  have C1 := hid ((hb4.cell (p := ⟨g, 1, none⟩) hgl).trans HC1.out)
  have hgl4 := Nat.lt_of_lt_of_le hgl hb4.size
  clear hb4 HC0 HC1 hgl B3
  go_wp2_with fail
  refine (parse_any cliL (by decide)).mono ?_
  rintro e w5 ⟨hb5, hC, c, vS, vV, vG, vC, vH, vO, rfl, hv, hm⟩
  obtain ⟨h0, sC, hp, hch, hsl⟩ := cli_parse
  rw [hp] at hm
  obtain ⟨rfl, rfl⟩ := hm
  have B5 := hid (below_to B4.out hb5)
  have C0' := hid ((hb5.cell (p := ⟨g, 0, none⟩) hgl4).trans C0.out)
  have C1' := hid ((hb5.cell (p := ⟨g, 1, none⟩) hgl4).trans C1.out)
  have hgl5 := Nat.lt_of_lt_of_le hgl4 hb5.size
  have hrd := hv.read (HE.parse_good hp) (by decide)
  obtain ⟨aS, cS, rfl⟩ := owns_sl hv.s
  obtain ⟨aV, cV, rfl⟩ := owns_sl hv.v
  obtain ⟨aG, cG, rfl⟩ := owns_sl hv.g
  obtain ⟨aC, cC, rfl⟩ := owns_sl hv.c
  obtain ⟨aH, cH, rfl⟩ := owns_sl hv.sh
  obtain ⟨aO, cO, rfl⟩ := owns_sl hv.o
  have HRD := hid hrd
  have HCH := hid hch
  have HSL := hid hsl
  clear hb5 hv hp hch hsl hrd C0 C1 hgl4 B4
  go_wp2_with fail
  have hbn := below_new (w := w5) (.cells (helCells hC (.slice aS hC.suites.length cS) (.slice aV hC.versions.length cV) (.slice aG hC.groups.length cG) (.slice aC hC.schemes.length cC) (.slice aH hC.shares.length cH) (.slice aO hC.others.length cO)) 38)
  refine (choose_any (HRD.out.keep hbn)).mono ?_
  rintro e w6 ⟨hb6, rfl⟩
  have B6 := hid (below_to B5.out (hbn.trans (hb6.mono (Nat.le_of_lt (by simp)))))
  have C0 := hid ((hb6.cell (p := ⟨g, 0, none⟩) (Nat.lt_of_lt_of_le hgl5 hbn.size)).trans ((hbn.cell (p := ⟨g, 0, none⟩) hgl5).trans C0'.out))
  have C1 := hid ((hb6.cell (p := ⟨g, 1, none⟩) (Nat.lt_of_lt_of_le hgl5 hbn.size)).trans ((hbn.cell (p := ⟨g, 1, none⟩) hgl5).trans C1'.out))
  have hgl6 := Nat.lt_of_lt_of_le (Nat.lt_of_lt_of_le hgl5 hbn.size) hb6.size
  rw [HCH.out]
  unfold chV
  simp only []
  have hss := text_size sC
  rw [HSL.out] at hss
  obtain ⟨S, hS⟩ : ∃ S, (⟨sC.toArray⟩ : ByteArray) = S := ⟨_, rfl⟩
  rw [hS] at hss ⊢
  clear hbn hb6 HRD HCH HSL C0' C1' hgl5 B5 hS
  go_wp2_with fail
  have hpe : Calls Try.prog 11 #[.string ⟨#[]⟩] w6 (ParseV w6 (.error 270)) := parse_any [] (by simp)
  refine hpe.mono ?_
  clear hpe
  rintro e w7 ⟨hb7, hD, c, vS, vV, vG, vC, vH, vO, rfl, hv, rfl, rfl⟩
  have B7 := hid (below_to B6.out hb7)
  have C0' := hid ((hb7.cell (p := ⟨g, 0, none⟩) hgl6).trans C0.out)
  have C1' := hid ((hb7.cell (p := ⟨g, 1, none⟩) hgl6).trans C1.out)
  have hgl7 := Nat.lt_of_lt_of_le hgl6 hb7.size
  obtain ⟨bS, dS, rfl⟩ := owns_sl hv.s
  obtain ⟨bV, dV, rfl⟩ := owns_sl hv.v
  obtain ⟨bG, dG, rfl⟩ := owns_sl hv.g
  obtain ⟨bC, dC, rfl⟩ := owns_sl hv.c
  obtain ⟨bH, dH, rfl⟩ := owns_sl hv.sh
  obtain ⟨bO, dO, rfl⟩ := owns_sl hv.o
  clear hb7 hv C0 C1 hgl6 B6
  go_wp2_with fail
  have hbn := below_new (w := w7) (.cells (helCells helZ (.slice bS helZ.suites.length dS) (.slice bV helZ.versions.length dV) (.slice bG helZ.groups.length dG) (.slice bC helZ.schemes.length dC) (.slice bH helZ.shares.length dH) (.slice bO helZ.others.length dO)) 38)
  refine (choose_zero _).mono ?_
  rintro e w8 ⟨hb8, rfl⟩
  have B8 := hid (below_to B7.out (hbn.trans (hb8.mono (Nat.le_of_lt (by simp)))))
  have C0 := (hb8.cell (p := ⟨g, 0, none⟩) (Nat.lt_of_lt_of_le hgl7 hbn.size)).trans ((hbn.cell (p := ⟨g, 0, none⟩) hgl7).trans C0'.out)
  have C1 := (hb8.cell (p := ⟨g, 1, none⟩) (Nat.lt_of_lt_of_le hgl7 hbn.size)).trans ((hbn.cell (p := ⟨g, 1, none⟩) hgl7).trans C1'.out)
  clear hbn hb8 C0' C1' hgl7 B7
  go_wp2_with fail
  refine extsn_any.mono ?_
  rintro e w9 ⟨hb9, rfl⟩
  have B9 := hid (below_to B8.out hb9)
  clear hb9 B8 C0 C1
  go_wp2_with fail
  go_ret
  exact ⟨rfl, B9.out⟩
end
end Go.Proofs.Ytliblhfabnjpkaa
