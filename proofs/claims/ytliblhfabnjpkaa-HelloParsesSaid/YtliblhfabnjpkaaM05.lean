/- The parser: what Parse leaves to the end. The parser: Parse. What is chosen of a hello. Plain: how large a hello is that was read. -/
import Derived.Test.YtliblhfabnjpkaaM04
import Derived.Defers
import Derived.Recover
namespace Go.Proofs.Ytliblhfabnjpkaa
open Go Go.RowKit
/-- A hello of nothing. -/
def helZ : Hel := ⟨[], [], [], [], [], [], [], false, [], [], false, []⟩
def zcells : Array Value := #[.string ⟨#[]⟩, .string ⟨#[]⟩, .slice none 0 0, .slice none 0 0, .slice none 0 0, .slice none 0 0, .slice none 0 0, .bool false, .string ⟨#[]⟩, .string ⟨#[]⟩, .bool false, .slice none 0 0]
theorem zcells_hel : zcells = helCells helZ (.slice none 0 0) (.slice none 0 0) (.slice none 0 0) (.slice none 0 0) (.slice none 0 0) (.slice none 0 0) := rfl
theorem zeroH (w : World) : (zeroValue 38).run Try.prog w = .ok (.agg zcells) w := by kernel_rfl
@[go_sem] theorem one_slice (a : Option Addr) (n c : Nat) : (Value.slice a n c).oneCell' = true := rfl
theorem info_Hello : (Try.prog.info? 38).map (·.size) = some 12 := by kernel_rfl
                                                                                                      theorem exl_Hello {r : Operand → Value} {dst : Option Nat} {x : Operand} {t : TypeId} {pos : String} {af : Array Edge} {g : Option (Nat × Bool)} : execOp r ⟨dst, .load 38 x, t, pos, af, g⟩ = (do let v ← loadRow 38 (r x); pure (Next.value v)) := rfl
                                                                                                      theorem exs_Hello {r : Operand → Value} {dst : Option Nat} {x y : Operand} {t : TypeId} {pos : String} {af : Array Edge} {g : Option (Nat × Bool)} : execOp r ⟨dst, .store 38 x y, t, pos, af, g⟩ = (do storeRow 38 (r x) (r y); pure Next.skip) := rfl
                                                                                                      theorem ldr_Hello (b : Nat) (w : World) : (loadRow 38 (.pointer (some ⟨b, 0, none⟩))).run Try.prog w = match hget w b with | some (.cells c _ _) => if c.size = 12 then .ok (.agg c) w else stuckL Try.prog 38 b w | _ => stuckL Try.prog 38 b w := loadRow_run Try.underlying38 rfl info_Hello b w
                                                                                                      theorem str_Hello (b : Nat) (c' : Array Value) (w : World) : (storeRow 38 (.pointer (some ⟨b, 0, none⟩)) (.agg c')).run Try.prog w = match hget w b with | some (.cells c T (0, 0)) => if c.size = 12 then (if c'.size = 12 then (if ones c' = true then .ok () (blk w b (.cells c' T (0, 0))) else stuckS Try.prog 38 b (.agg c') w) else stuckS Try.prog 38 b (.agg c') w) else stuckS Try.prog 38 b (.agg c') w | _ => stuckS Try.prog 38 b (.agg c') w := storeRow_run info_Hello b c' w
attribute [local go_sem ↓] exl_Hello exs_Hello
                                                                                                                                                                                                                                                                                                                                                                                                                                                                                                                                                                                                                      attribute [local go_sem] ldr_Hello str_Hello
theorem catch_none (H E : Nat) (w : World) : CallsD Try.prog 33 #[.pointer (some ⟨H, 0, none⟩), .pointer (some ⟨E, 0, none⟩)] .returning w fun e u' w' => e = .returned (.tuple #[]) ∧ u' = .returning ∧ w' = w := by
  refine callsD_of_wpS Try.func33 rfl fun c₀ cs hu => ?_
  apply wpS_seq
  apply wpS_region
  simp [wpOpsS, go_sem, recoverD, hu, Try.ntmps33, Exit.thenS]
  apply wpS_seq
  apply wpS_region
  simp [wpOpsS, go_sem, Exit.thenS]
  refine wpS_cond (t := false) (by simp [Act.eval, Array.replicate]) ?_
  simp only [Bool.false_eq_true, if_false]
  refine wpS_of_wp (wp_skip ?_)
  cases c₀
  simp_all [bodyPostS, results, Try.results33]
theorem catch_some (H E : Nat) (w : World) (hc : Array Value) (c : Int) (ev : Value) (hH : hget w H = some (.cells hc 38 (0, 0))) (hcs : hc.size = 12) (hE : hget w E = some (.cells #[ev] 24 (0, 0))) (hne : H ≠ E) :
    CallsD Try.prog 33 #[.pointer (some ⟨H, 0, none⟩), .pointer (some ⟨E, 0, none⟩)] (.panicking [{ v := .iface 24 (.int .i64 c), recovered := false }]) w fun e u' w' =>
      e = .returned (.tuple #[]) ∧ u' = .panicking [{ v := .iface 24 (.int .i64 c), recovered := true }] ∧ w' = (blk w H (.cells zcells 38 (0, 0))).setCell ⟨E, 0, none⟩ (.int .i64 c) := by
  refine callsD_of_wpS Try.func33 rfl fun c₀ cs hu => ?_
  apply wpS_seq
  apply wpS_region
  simp [wpOpsS, go_sem, recoverD, hu, Try.ntmps33, Exit.thenS]
  apply wpS_seq
  apply wpS_region
  simp [wpOpsS, go_sem, Exit.thenS]
  refine wpS_cond (t := true) (by simp [Act.eval, Array.replicate]) ?_
  simp only [if_true]
  apply wpS_seq
  apply wpS_region
  have hta : (Instr.typeAssert (.iface 24 (.int .i64 c)) 20 24 true).run Try.prog w = .ok (.tuple #[.int .i64 c, .bool true]) w := by kernel_rfl
  simp [wpOpsS, go_sem, Exit.thenS, hta]
  apply wpS_seq
  apply wpS_seq
  apply wpS_region
  simp [wpOpsS, go_sem, Exit.thenS]
  refine wpS_cond (t := false) (by simp [Act.eval, Array.replicate]) ?_
  simp only [Bool.false_eq_true, if_false]
  refine wpS_of_wp (wp_skip ?_)
  simp only [Exit.thenS]
  apply wpS_region
  have hE2 : hget (blk w H (.cells zcells 38 (0, 0))) E = some (.cells #[ev] 24 (0, 0)) := (blk_other E (fun e => hne e.symm)).trans hE
  have e0 := cell_at hE2 0
  have f0 := free_at hE2 0
  simp only [List.getElem?_toArray, List.getElem?_cons_zero] at e0
  unfold zcells at e0 f0 ⊢
  simp [wpOpsS, go_sem, hH, hcs, e0, f0, bodyPostS, results, Try.results33]
end Go.Proofs.Ytliblhfabnjpkaa

namespace Go.Proofs.Ytliblhfabnjpkaa
open Go Go.RowKit
namespace HE
def start (b : BS) : Option (BS × BS × BS) := (take 2 b).bind fun p => (take 32 p.2).bind fun q => (text 1 q.2).map fun s => (q.1, s.1, s.2)
/-- What follows the session. -/
def body2 (rnd ses r : BS) : Except Int Hel :=
  match numbers 2 r with
  | none => .error 270
  | some (su, r4) =>
    match text 1 r4 with
    | none => .error 270
    | some (c, r5) =>
      if c = [0] then
        (if r5 = [] then .ok { helZ with random := rnd, session := ses, suites := su }
        else match text 2 r5 with
          | none => .error 270
          | some (x, r6) => if r6 = [] then extN 64 { helZ with random := rnd, session := ses, suites := su } [] x else .error 270)
      else .error 271
/-- The hello that a body is: or an error. -/
def parse (b : BS) : Except Int Hel :=
  match start b with
  | none => .error 270
  | some (rnd, ses, r) => if 32 < ses.length then .error 270 else body2 rnd ses r
end HE
attribute [local go_sem ↓] exl_Hello exs_Hello
      attribute [local go_sem] ldr_Hello str_Hello
/-- What Parse hands back. -/
def ParseV (W : World) (r : Except Int Hel) (e : Ending) (w' : World) : Prop :=
  Below W.heap.size W w' ∧ ∃ h c vS vV vG vC vH vO, e = .returned (.tuple #[.agg (helCells h vS vV vG vC vH vO), .int .i64 c]) ∧ HVals w' W.heap.size h vS vV vG vC vH vO ∧
    match r with
    | .ok h' => h = h' ∧ c = 0
    | .error c' => h = helZ ∧ c = c'
theorem load_errno {w : World} {m : Nat} {i : Int} (h : w.cell? ⟨m, 0, none⟩ = some (.int .i64 i)) : (loadVar 24 ⟨m, 0, none⟩).run Try.prog w = .ok (.int .i64 i) w := by
  simp [go_sem, h]
theorem results_cell_cell {P : Program} {fn : Func} {p u : Tmp} {ty tz : TypeId} (h : fn.results = #[.cell p ty, .cell u tz]) (tmps : Array Value) (w : World) (g m : Nat) (t : TypeId) (cs : Array Value) (fr : Nat × Nat) (d : TypeDesc) (v : Value)
    (hp : tmps.getD p undef = .pointer (some ⟨g, 0, none⟩)) (hv : tmps.getD u undef = .pointer (some ⟨m, 0, none⟩)) (hg : w.heap[g]? = some (.cells cs t fr))
    (hu : P.underlying ty = some d) (hd : (match d with | .struct _ | .array _ _ => true | _ => false) = true) (hi : (P.info? ty).map (·.size) = some cs.size)
    (hm : (loadVar tz ⟨m, 0, none⟩).run P w = .ok v w) :
    (results fn tmps).run P w = .ok (.tuple #[.agg cs, v]) w := by
  have hp' : tmps[p]?.getD undef = .pointer (some ⟨g, 0, none⟩) := by simpa using hp
  have hv' : tmps[u]?.getD undef = .pointer (some ⟨m, 0, none⟩) := by simpa using hv
  simp [results, h, hp', hv', asAddr, run_loadVar_row w g t ty cs fr d hg hu hd hi, hm]
/-- What is left to the end. -/
abbrev dfr (H : Nat) : List Deferred := [{ target := .fn (.func 33) #[.pointer (some ⟨H, 0, none⟩), .pointer (some ⟨H + 1, 0, none⟩)], args := #[] }]
theorem end_die {tmps : Array Value} {H : Nat} {w : World} {c : Int} {ev : Value} {R : Ending → World → Prop} {hc : Array Value} (h2 : tmps.getD 2 undef = .pointer (some ⟨H, 0, none⟩)) (h3 : tmps.getD 3 undef = .pointer (some ⟨H + 1, 0, none⟩))
    (hH : hget w H = some (.cells hc 38 (0, 0))) (hcs : hc.size = 12) (hE : hget w (H + 1) = some (.cells #[ev] 24 (0, 0))) (hR : ∀ w', Out (fun k => k = H ∨ k = H + 1) w w' → R (.returned (.tuple #[.agg zcells, .int .i64 c])) w') :
    bodyPostD Try.prog Try.f11 R (.panic [{ v := .iface 24 (.int .i64 c), recovered := false }]) ⟨tmps, dfr H⟩ w := by
  refine leaves_cons (f := 33) (args := #[.pointer (some ⟨H, 0, none⟩), .pointer (some ⟨H + 1, 0, none⟩)]) (by simp) (by simp [go_sem]) ?_
  refine (catch_some H (H + 1) w hc c ev hH hcs hE (by omega)).mono ?_
  rintro e u' w'' ⟨rfl, rfl, rfl⟩
  have e1 : hget (blk w H (.cells zcells 38 (0, 0))) H = _ := blk_heap (lt_blk hH)
  have e2 : hget (blk w H (.cells zcells 38 (0, 0))) (H + 1) = _ := (blk_other (H + 1) (by omega)).trans hE
  have e3 := hget_setCell_ne (p := ⟨H + 1, 0, none⟩) e1 (show H ≠ H + 1 by omega) (.int .i64 c)
  have e4 := hget_setCell e2 0 (.int .i64 c)
  refine ⟨_, results_cell_cell Try.results11 _ _ H (H + 1) 38 _ (0, 0) _ _ h2 h3 e3 Try.underlying38 rfl (by kernel_rfl) (load_errno (cell_at e4 0)), ?_⟩
  exact hR _ (((Out.refl _ w).blk (.inl (.inl rfl)) _).setCell (.inl (.inr rfl)) _)
theorem end_ret {x : Exit} {tmps : Array Value} {H : Nat} {w : World} {c : Int} {R : Ending → World → Prop} {hc : Array Value} (hx : x = .ret ∨ x = .normal) (h2 : tmps.getD 2 undef = .pointer (some ⟨H, 0, none⟩)) (h3 : tmps.getD 3 undef = .pointer (some ⟨H + 1, 0, none⟩))
    (hH : hget w H = some (.cells hc 38 (0, 0))) (hcs : hc.size = 12) (hE : hget w (H + 1) = some (.cells #[.int .i64 c] 24 (0, 0))) (hR : R (.returned (.tuple #[.agg hc, .int .i64 c])) w) :
    bodyPostD Try.prog Try.f11 R x ⟨tmps, dfr H⟩ w := by
  have k : Leaves Try.prog Try.f11 tmps R (dfr H) .returning w := by
    refine leaves_cons (f := 33) (args := #[.pointer (some ⟨H, 0, none⟩), .pointer (some ⟨H + 1, 0, none⟩)]) (by simp) (by simp [go_sem]) ?_
    refine (catch_none H (H + 1) w).mono ?_
    rintro e u' w'' ⟨rfl, rfl, rfl⟩
    exact ⟨_, results_cell_cell Try.results11 _ _ H (H + 1) 38 _ (0, 0) _ _ h2 h3 hH Try.underlying38 rfl (by rw [hcs]; kernel_rfl) (load_errno (cell_at hE 0)), hR⟩
  rcases hx with rfl | rfl <;> exact k
/-- How memory stands while Parse runs (H: its first block). -/
structure PW (W w : World) (H : Nat) (t : HE.BS) (g : Hel) : Prop where
  hH : hget w H = some (.cells zcells 38 (0, 0))
  hE : hget w (H + 1) = some (.cells #[.int .i64 0] 24 (0, 0))
  hP : PAt w (H + 1 + 1) t (.pointer none)
  hQ : HIn w (fun _ => False) (H + 1 + 1 + 1) (H + 1 + 1 + 1 + 1) g
  below : Below H W w
  size : H + 1 + 1 + 1 + 1 ≤ w.heap.size
theorem PW.out {W w w' : World} {H : Nat} {t t' : HE.BS} {g : Hel} (h : PW W w H t g) (ho : Out (fun k => k = H + 1 + 1) w w') (hp : PAt w' (H + 1 + 1) t' (.pointer none)) : PW W w' H t' g :=
  ⟨ho.get h.hH (by omega), ho.get h.hE (by omega), hp, h.hQ.out ho (by omega) (fun k e => .inl (by omega)), h.below.trans (ho.below (fun k e => by omega) (by have := h.size; omega)), Nat.le_trans h.size ho.size⟩
theorem PW.same {W w w' : World} {H : Nat} {t : HE.BS} {g : Hel} (h : PW W w H t g) (ho : Out (fun _ => False) w w') : PW W w' H t g :=
  h.out (ho.mono (fun _ _ e => e.elim)) (ho.get h.hP (by simp))
theorem parseV_die {W : World} {H : Nat} (hH : W.heap.size = H) {w w' : World} {c : Int} (hb : Below H W w) (ho : Out (fun k => k = H ∨ k = H + 1) w w') {r : Except Int Hel} (hr : r = .error c) : ParseV W r (.returned (.tuple #[.agg zcells, .int .i64 c])) w' := by
  subst hH
  refine ⟨hb.trans (ho.below (fun k e => by omega) hb.size), helZ, c, .slice none 0 0, .slice none 0 0, .slice none 0 0, .slice none 0 0, .slice none 0 0, .slice none 0 0, rfl, ⟨World.ownsRow_nil _ _ _ _, World.ownsRow_nil _ _ _ _, World.ownsRow_nil _ _ _ _, World.ownsRow_nil _ _ _ _, World.ownsRow_nil _ _ _ _, World.ownsRow_nil _ _ _ _, fun k e => by cases e⟩, ?_⟩
  rw [hr]
  exact ⟨rfl, rfl⟩
theorem PW.die {W w w' : World} {H : Nat} {t : HE.BS} {g : Hel} (h : PW W w H t g) (hH : W.heap.size = H) {ex : Nat → Prop} (ho : Out ex w w') (hex : ∀ k, ex k → H + 1 < k) {r : Except Int Hel} {c : Int} (hr : r = .error c) {tmps : Array Value}
    (h2 : tmps.getD 2 undef = .pointer (some ⟨H, 0, none⟩)) (h3 : tmps.getD 3 undef = .pointer (some ⟨H + 1, 0, none⟩)) :
    bodyPostD Try.prog Try.f11 (ParseV W r) (.panic [{ v := .iface 24 (.int .i64 c), recovered := false }]) ⟨tmps, dfr H⟩ w' :=
  end_die h2 h3 (ho.get h.hH (fun e => by have := hex _ e; omega)) rfl (ho.get h.hE (fun e => by have := hex _ e; omega)) fun w'' ho2 =>
    parseV_die hH (h.below.trans (ho.below (fun k e => by have := hex _ e; omega) (by have := h.size; omega))) ho2 hr
/-- A return with an error that is laid in the results. -/
theorem PW.bad {W w : World} {H : Nat} {t : HE.BS} {g : Hel} (h : PW W w H t g) (hH : W.heap.size = H) {r : Except Int Hel} {c : Int} (hr : r = .error c) {x : Exit} (hx : x = .ret ∨ x = .normal) {tmps : Array Value}
    (h2 : tmps.getD 2 undef = .pointer (some ⟨H, 0, none⟩)) (h3 : tmps.getD 3 undef = .pointer (some ⟨H + 1, 0, none⟩)) :
    bodyPostD Try.prog Try.f11 (ParseV W r) x ⟨tmps, dfr H⟩ ((blk w H (.cells zcells 38 (0, 0))).setCell ⟨H + 1, 0, none⟩ (.int .i64 c)) := by
  have e1 : hget (blk w H (.cells zcells 38 (0, 0))) H = _ := blk_heap (lt_blk h.hH)
  have e2 : hget (blk w H (.cells zcells 38 (0, 0))) (H + 1) = _ := (blk_other (H + 1) (by omega)).trans h.hE
  have e3 := hget_setCell_ne (p := ⟨H + 1, 0, none⟩) e1 (show H ≠ H + 1 by omega) (.int .i64 c)
  have e4 := hget_setCell e2 0 (.int .i64 c)
  exact end_ret hx h2 h3 e3 rfl e4 (parseV_die hH h.below (((Out.refl _ w).blk (.inl (.inl rfl)) _).setCell (.inl (.inr rfl)) _) hr)
@[go_sem] theorem helCells_size (h : Hel) (vS vV vG vC vH vO : Value) : (helCells h vS vV vG vC vH vO).size = 12 := rfl
@[go_sem] theorem helCells_ones (h : Hel) (aS aV aG aC aH aO : Option Addr) (nS nV nG nC nH nO cS cV cG cC cH cO : Nat) : ones (helCells h (.slice aS nS cS) (.slice aV nV cV) (.slice aG nG cG) (.slice aC nC cC) (.slice aH nH cH) (.slice aO nO cO)) = true := rfl
/-- The hello that was read is handed back. -/
theorem PW.good {W w : World} {H : Nat} {t : HE.BS} {g : Hel} (h : PW W w H t g) (hH : W.heap.size = H) {r : Except Int Hel} (hr : r = .ok g) {x : Exit} (hx : x = .ret ∨ x = .normal) {tmps : Array Value}
    (h2 : tmps.getD 2 undef = .pointer (some ⟨H, 0, none⟩)) (h3 : tmps.getD 3 undef = .pointer (some ⟨H + 1, 0, none⟩)) {vS vV vG vC vH vO : Value} (hv : HVals w (H + 1 + 1 + 1 + 1) g vS vV vG vC vH vO) :
    bodyPostD Try.prog Try.f11 (ParseV W r) x ⟨tmps, dfr H⟩ ((blk w H (.cells (helCells g vS vV vG vC vH vO) 38 (0, 0))).setCell ⟨H + 1, 0, none⟩ (.int .i64 0)) := by
  have e1 : hget (blk w H (.cells (helCells g vS vV vG vC vH vO) 38 (0, 0))) H = _ := blk_heap (lt_blk h.hH)
  have e2 : hget (blk w H (.cells (helCells g vS vV vG vC vH vO) 38 (0, 0))) (H + 1) = _ := (blk_other (H + 1) (by omega)).trans h.hE
  have e3 := hget_setCell_ne (p := ⟨H + 1, 0, none⟩) e1 (show H ≠ H + 1 by omega) (.int .i64 0)
  have e4 := hget_setCell e2 0 (.int .i64 0)
  have ho : Out (fun k => k = H ∨ k = H + 1) w ((blk w H (.cells (helCells g vS vV vG vC vH vO) 38 (0, 0))).setCell ⟨H + 1, 0, none⟩ (.int .i64 0)) := ((Out.refl _ w).blk (.inl (.inl rfl)) _).setCell (.inl (.inr rfl)) _
  have b := hv.out ho (fun k hk e => by omega)
  have c : W.heap.size ≤ H + 1 + 1 + 1 + 1 := by omega
  refine end_ret hx h2 h3 e3 rfl e4 ⟨?_, g, 0, vS, vV, vG, vC, vH, vO, rfl, ⟨owns_base b.s c, owns_base b.v c, owns_base b.g c, owns_base b.c c, owns_base b.sh c, owns_base b.o c, b.apart⟩, ?_⟩
  · rw [hH]; exact h.below.trans (ho.below (fun k e => by omega) (by have := h.size; omega))
  · rw [hr]; exact ⟨rfl, rfl⟩
theorem PW.cells {W w : World} {H : Nat} {t : HE.BS} {g : Hel} (h : PW W w H t g) : ∃ vS : Value, w.cell? ⟨H + 1 + 1 + 1, 0, none⟩ = some (.string ⟨g.random.toArray⟩) ∧ w.cell? ⟨H + 1 + 1 + 1, 1, none⟩ = some (.string ⟨g.session.toArray⟩) ∧ w.cell? ⟨H + 1 + 1 + 1, 2, none⟩ = some vS ∧ ∀ k, w.frozen? ⟨H + 1 + 1 + 1, k, none⟩ = false := by
  obtain ⟨vS, vV, vG, vC, vH, vO, hq, hv, hf⟩ := h.hQ
  exact ⟨vS, cell_at hq 0, cell_at hq 1, cell_at hq 2, free_at hq⟩
theorem PW.cell {W w : World} {H : Nat} {t : HE.BS} {g g' : Hel} (h : PW W w H t g) (k : Nat) (v : Value) (hh : HIn (w.setCell ⟨H + 1 + 1 + 1, k, none⟩ v) (fun _ => False) (H + 1 + 1 + 1) (H + 1 + 1 + 1 + 1) g') : PW W (w.setCell ⟨H + 1 + 1 + 1, k, none⟩ v) H t g' :=
  have ho : Out (fun k => k = H + 1 + 1 + 1) w (w.setCell ⟨H + 1 + 1 + 1, k, none⟩ v) := Out.setCell (Out.refl (fun k => k = H + 1 + 1 + 1) w) (.inl rfl) v
  ⟨ho.get h.hH (by omega), ho.get h.hE (by omega), ho.get h.hP (by omega), hh, h.below.trans (ho.below (fun k e => by omega) (by have := h.size; omega)), Nat.le_trans h.size ho.size⟩
theorem PW.random {W w : World} {H : Nat} {t : HE.BS} {g : Hel} (h : PW W w H t g) (x : HE.BS) : PW W (w.setCell ⟨H + 1 + 1 + 1, 0, none⟩ (.string ⟨x.toArray⟩)) H t { g with random := x } := by
  obtain ⟨vS, vV, vG, vC, vH, vO, hq, hv, hf⟩ := h.hQ
  have b := hv.out (Out.setCell (p := ⟨H + 1 + 1 + 1, 0, none⟩) (Out.refl (fun k => k = H + 1 + 1 + 1) w) (.inl rfl) (.string ⟨x.toArray⟩)) (fun k hk e => by omega)
  exact h.cell 0 _ ⟨vS, vV, vG, vC, vH, vO, hget_setCell hq 0 _, ⟨b.s, b.v, b.g, b.c, b.sh, b.o, b.apart⟩, hf⟩
theorem PW.session {W w : World} {H : Nat} {t : HE.BS} {g : Hel} (h : PW W w H t g) (x : HE.BS) : PW W (w.setCell ⟨H + 1 + 1 + 1, 1, none⟩ (.string ⟨x.toArray⟩)) H t { g with session := x } := by
  obtain ⟨vS, vV, vG, vC, vH, vO, hq, hv, hf⟩ := h.hQ
  have b := hv.out (Out.setCell (p := ⟨H + 1 + 1 + 1, 1, none⟩) (Out.refl (fun k => k = H + 1 + 1 + 1) w) (.inl rfl) (.string ⟨x.toArray⟩)) (fun k hk e => by omega)
  exact h.cell 1 _ ⟨vS, vV, vG, vC, vH, vO, hget_setCell hq 1 _, ⟨b.s, b.v, b.g, b.c, b.sh, b.o, b.apart⟩, hf⟩
theorem PW.suites {W w w' : World} {H : Nat} {t t' : HE.BS} {g : Hel} (h : PW W w H t g) (ho : Out (fun k => k = H + 1 + 1) w w') (hp : PAt w' (H + 1 + 1) t' (.pointer none)) {v : Value} {l : List Nat} (hl : w'.ownsRow w.heap.size 56 1 v l.length (u16s l)) :
    PW W (w'.setCell ⟨H + 1 + 1 + 1, 2, none⟩ v) H t' { g with suites := l } := by
  have h' := h.out ho hp
  obtain ⟨vS, vV, vG, vC, vH, vO, hq, hv, hf⟩ := h.hQ
  obtain hq' := ho.get hq (by omega)
  have ho2 : Out (fun k => k = H + 1 + 1 ∨ k = H + 1 + 1 + 1) w (w'.setCell ⟨H + 1 + 1 + 1, 2, none⟩ v) := (ho.mono (fun _ _ e => .inl e)).setCell (.inl (.inr rfl)) v
  have b := hv.out ho2 (fun k hk e => by omega)
  have o := owns_out hl (Out.setCell (p := ⟨H + 1 + 1 + 1, 2, none⟩) (Out.refl (fun k => k = H + 1 + 1 + 1) w') (.inl rfl) v) (fun k hk e => by have := h.size; omega)
  exact h'.cell 2 _ ⟨v, vV, vG, vC, vH, vO, hget_setCell hq' 2 _, ⟨owns_base o h.size, b.v, b.g, b.c, b.sh, b.o, fun k e => ⟨fun e2 => by
    have h1 := (owns_lt hv.o e).2
    have h2 := (owns_lt hl e2).1
    omega, (b.apart k e).2⟩⟩, ⟨fun _ _ f => f, hf.v, hf.g, hf.c, hf.sh, hf.o⟩⟩
section
variable {w : World}
set_option maxHeartbeats 4000000 in
theorem parse_any (b : HE.BS) (hb : b.length ≤ 1000000) : Calls Try.prog 11 #[.string ⟨b.toArray⟩] w (ParseV w (HE.parse b)) := by
  have hmf : ∀ (fn : Fn) (first cap : Array Value) (w : World), (Instr.makeFunc fn first cap).run Try.prog w = .ok (.func fn first cap) w := fun _ _ _ _ => rfl
  go_enter_defers Try.func11, Try.ntmps11
  have h0 : PW w ((((w.alloc (.cells zcells 38)).alloc (.cells #[.int .i64 0] 24)).alloc (.cells #[.string ⟨b.toArray⟩, .pointer none] 75)).alloc (.cells zcells 77)) w.heap.size b helZ := by
    have k1 : hget (w.alloc (.cells zcells 38)) w.heap.size = _ := alloc_at _ _
    have k2 : hget ((w.alloc (.cells zcells 38)).alloc (.cells #[.int .i64 0] 24)) (w.heap.size + 1) = _ := alloc_at' (by simp) _
    have k3 : hget (((w.alloc (.cells zcells 38)).alloc (.cells #[.int .i64 0] 24)).alloc (.cells #[.string ⟨b.toArray⟩, .pointer none] 75)) (w.heap.size + 1 + 1) = _ := alloc_at' (by simp) _
    have k4 : hget ((((w.alloc (.cells zcells 38)).alloc (.cells #[.int .i64 0] 24)).alloc (.cells #[.string ⟨b.toArray⟩, .pointer none] 75)).alloc (.cells zcells 77)) (w.heap.size + 1 + 1 + 1) = _ := alloc_at' (by simp) _
    refine ⟨alloc_old (alloc_old (alloc_old k1)), alloc_old (alloc_old k2), alloc_old k3, ⟨_, _, _, _, _, _, k4, ⟨World.ownsRow_nil _ _ _ _, World.ownsRow_nil _ _ _ _, World.ownsRow_nil _ _ _ _, World.ownsRow_nil _ _ _ _, World.ownsRow_nil _ _ _ _, World.ownsRow_nil _ _ _ _, fun k e => by cases e⟩, ⟨by simp, by simp, by simp, by simp, by simp, by simp⟩⟩, (((below_new _).alloc (by simp) _).alloc (by simp; omega) _).alloc (by simp; omega) _, by simp⟩
  unfold zcells at h0
  have H0 := hid h0
  clear h0
  go_upto_region 4 with (fail)
  clear hmf
  generalize (((w.alloc (.cells #[.string ⟨#[]⟩, .string ⟨#[]⟩, .slice none 0 0, .slice none 0 0, .slice none 0 0, .slice none 0 0, .slice none 0 0, .bool false, .string ⟨#[]⟩, .string ⟨#[]⟩, .bool false, .slice none 0 0] 38)).alloc (.cells #[.int .i64 0] 24)).alloc (.cells #[.string ⟨b.toArray⟩, .pointer none] 75)).alloc (.cells #[.string ⟨#[]⟩, .string ⟨#[]⟩, .slice none 0 0, .slice none 0 0, .slice none 0 0, .slice none 0 0, .slice none 0 0, .bool false, .string ⟨#[]⟩, .string ⟨#[]⟩, .bool false, .slice none 0 0] 77) = w0 at *
  obtain ⟨H, hH⟩ : ∃ H, w.heap.size = H := ⟨_, rfl⟩
  rw [hH]
  have H0 := hid (show PW w w0 H b helZ from hH ▸ H0.out)
  have HH := hid hH
  clear hH
  have htk := take_any H0.out.hP 2 (by omega) (by omega)
  unfold Gives at htk
  cases hr : HE.take 2 b with
  | none =>
    rw [hr] at htk
    have HT := hid htk
    have HX := hid (show HE.parse b = .error 270 by unfold HE.parse HE.start; rw [hr]; rfl)
    clear htk hr
    go_wp2_with fail
    refine HT.out.mono ?_
    rintro e w' ⟨ho, rfl⟩
    exact H0.out.die HH.out ho (fun k e => by omega) HX.out rfl rfl
  | some ar =>
    obtain ⟨a, r1⟩ := ar
    rw [hr] at htk
    have HT := hid htk
    have hl1 : r1.length ≤ b.length := by obtain ⟨h1, h2, h3⟩ := HE.take_some hr; rw [h3, List.length_drop]; omega
    have HR := hid hr
    clear htk hr
    go_wp2_with fail
    refine HT.out.mono ?_
    rintro e w1 ⟨ho, v, rfl, hv1, hp1⟩
    obtain rfl : v = .string ⟨a.toArray⟩ := hv1
    have H1 := hid (H0.out.out ho hp1)
    clear ho hp1 H0 HT
    have htk := take_any H1.out.hP 32 (by omega) (by omega)
    unfold Gives at htk
    cases hr : HE.take 32 r1 with
    | none =>
      rw [hr] at htk
      have HT := hid htk
      have HX := hid (show HE.parse b = .error 270 by unfold HE.parse HE.start; rw [HR.out]; simp [hr])
      clear htk hr
      go_wp2_with fail
      refine HT.out.mono ?_
      rintro e w' ⟨ho, rfl⟩
      exact H1.out.die HH.out ho (fun k e => by omega) HX.out rfl rfl
    | some ar =>
      obtain ⟨rnd, r2⟩ := ar
      rw [hr] at htk
      have HT := hid htk
      have hl2 : r2.length ≤ r1.length := by obtain ⟨h1, h2, h3⟩ := HE.take_some hr; rw [h3, List.length_drop]; omega
      have HR2 := hid hr
      clear htk hr
      go_wp2_with fail
      refine HT.out.mono ?_
      rintro e w2 ⟨ho, v, rfl, hv1, hp2⟩
      obtain rfl : v = .string ⟨rnd.toArray⟩ := hv1
      have H2 := hid (H1.out.out ho hp2)
      clear ho hp2 H1 HT
      obtain ⟨vS, c0, -, -, fq⟩ := H2.out.cells
      go_wp2_with fail
      clear c0 fq
      have H3 := hid (H2.out.random rnd)
      clear H2
      generalize w2.setCell ⟨H + 1 + 1 + 1, 0, none⟩ (.string ⟨rnd.toArray⟩) = w3 at *
      have htx := text_any H3.out.hP 1 (by omega) (by omega)
      unfold Gives at htx
      cases hr : HE.text 1 r2 with
      | none =>
        rw [hr] at htx
        have HT := hid htx
        have HX := hid (show HE.parse b = .error 270 by unfold HE.parse HE.start; rw [HR.out]; simp [HR2.out, hr])
        clear htx hr
        refine HT.out.mono ?_
        rintro e w' ⟨ho, rfl⟩
        exact H3.out.die HH.out ho (fun k e => by omega) HX.out rfl rfl
      | some ar =>
        obtain ⟨ses, r3⟩ := ar
        rw [hr] at htx
        have HT := hid htx
        obtain ⟨hl3, hl4⟩ := HE.text_some hr
        have HX := hid (show HE.parse b = if 32 < ses.length then .error 270 else HE.body2 rnd ses r3 by unfold HE.parse HE.start; rw [HR.out]; simp [HR2.out, hr])
        clear htx hr HR HR2
        refine HT.out.mono ?_
        rintro e w4 ⟨ho, v, rfl, hv1, hp4⟩
        obtain rfl : v = .string ⟨ses.toArray⟩ := hv1
        have H4 := hid (H3.out.out ho hp4)
        clear ho hp4 H3 HT
        obtain ⟨vS, -, c1, -, fq⟩ := H4.out.cells
        have H5 := hid (H4.out.session ses)
        have c1' : (w4.setCell ⟨H + 1 + 1 + 1, 1, none⟩ (.string ⟨ses.toArray⟩)).cell? ⟨H + 1 + 1 + 1, 1, none⟩ = some (.string ⟨ses.toArray⟩) := H5.out.cells.choose_spec.2.1
        have hs := text_size ses
        go_upto_region 7 with (fail)
        clear c1 fq H4
        generalize w4.setCell ⟨H + 1 + 1 + 1, 1, none⟩ (.string ⟨ses.toArray⟩) = w5 at *
        obtain ⟨S, hS⟩ : ∃ S, (⟨ses.toArray⟩ : ByteArray) = S := ⟨_, rfl⟩
        rw [hS] at c1' hs ⊢
        clear hS
        have hH5 := H5.out.hH
        have hE5 := H5.out.hE
        by_cases hse : 32 < ses.length
        · have ds : decide ((32 : Int) < (ses.length : Int)) = true := decide_eq_true (by omega)
          have HX2 := hid (HX.out.trans (if_pos hse))
          have cE : (blk w5 H (.cells zcells 38 (0, 0))).cell? ⟨H + 1, 0, none⟩ = some (.int .i64 0) := cell_at (show hget (blk w5 H (.cells zcells 38 (0, 0))) (H + 1) = _ from (blk_other (H + 1) (by omega)).trans hE5) 0
          have fE := free_at (show hget (blk w5 H (.cells zcells 38 (0, 0))) (H + 1) = _ from (blk_other (H + 1) (by omega)).trans hE5)
          unfold zcells at cE fE hH5
          go_wp2_with fail
          exact H5.out.bad HH.out HX2.out (.inl rfl) rfl rfl
        · have ds : decide ((32 : Int) < (ses.length : Int)) = false := decide_eq_false (by omega)
          have HX2 := hid (HX.out.trans (if_neg hse))
          clear hH5 hE5
          go_wp2_with fail
          clear c1' hs ds hse HX
          have hnm := numbers_any H5.out.hP 2 (by omega) (by omega)
          unfold Gives at hnm
          cases hr : HE.numbers 2 r3 with
          | none =>
            rw [hr] at hnm
            have HT := hid hnm
            have HX := hid (HX2.out.trans (show HE.body2 rnd ses r3 = .error 270 by unfold HE.body2; rw [hr]))
            clear hnm hr
            refine HT.out.mono ?_
            rintro e w' ⟨ho, rfl⟩
            exact H5.out.die HH.out ho (fun k e => by omega) HX.out rfl rfl
          | some ar =>
            obtain ⟨su, r4⟩ := ar
            rw [hr] at hnm
            have HT := hid hnm
            have HR := hid hr
            have hl5 : r4.length ≤ r3.length := by
              unfold HE.numbers at hr
              cases hs : HE.some' 2 r3 with
              | none => rw [hs] at hr; cases hr
              | some x =>
                rw [hs] at hr
                simp only [Option.bind_some] at hr
                cases hp : HE.pairs x.1 with
                | none => rw [hp] at hr; cases hr
                | some y =>
                  rw [hp] at hr
                  injection hr with hr
                  injection hr with hr1 hr2
                  rw [← hr2]
                  exact (HE.text_some (HE.some_some hs).1).1
            clear hnm hr
            refine HT.out.mono ?_
            rintro e w6 ⟨ho, v, rfl, hv1, hp6⟩
            have hq6 := H5.out.out ho hp6
            obtain ⟨vS, -, -, c2, fq⟩ := hq6.cells
            have H7 := hid (H5.out.suites ho hp6 hv1)
            obtain ⟨sa, sc, rfl⟩ := owns_sl hv1
            clear ho hp6 hv1 hq6 HT
            go_wp2_with fail
            clear c2 fq H5
            generalize w6.setCell ⟨H + 1 + 1 + 1, 2, none⟩ (.slice sa su.length sc) = w7 at *
            have htx := text_any H7.out.hP 1 (by omega) (by omega)
            unfold Gives at htx
            cases hr : HE.text 1 r4 with
            | none =>
              rw [hr] at htx
              have HT := hid htx
              have HX := hid (HX2.out.trans (show HE.body2 rnd ses r3 = .error 270 by unfold HE.body2; rw [HR.out]; simp [hr]))
              clear htx hr
              refine HT.out.mono ?_
              rintro e w' ⟨ho, rfl⟩
              exact H7.out.die HH.out ho (fun k e => by omega) HX.out rfl rfl
            | some ar =>
              obtain ⟨c, r5⟩ := ar
              rw [hr] at htx
              have HT := hid htx
              obtain ⟨hl6, hl7⟩ := HE.text_some hr
              have HX := hid (HX2.out.trans (show HE.body2 rnd ses r3 = if c = [0] then (if r5 = [] then .ok { helZ with random := rnd, session := ses, suites := su } else match HE.text 2 r5 with | none => .error 270 | some (x, r6) => if r6 = [] then HE.extN 64 { helZ with random := rnd, session := ses, suites := su } [] x else .error 270) else .error 271 by unfold HE.body2; rw [HR.out]; simp only [hr]))
              clear htx hr HR HX2
              refine HT.out.mono ?_
              rintro e w8 ⟨ho, v, rfl, hv1, hp8⟩
              obtain rfl : v = .string ⟨c.toArray⟩ := hv1
              have H8 := hid (H7.out.out ho hp8)
              clear ho hp8 H7 HT
              have heq : (⟨c.toArray⟩ : ByteArray).toList = c := ByteArray.toList_mk _
              obtain ⟨S, hS⟩ : ∃ S, (⟨c.toArray⟩ : ByteArray) = S := ⟨_, rfl⟩
              rw [hS] at heq ⊢
              clear hS
              have hH5 := H8.out.hH
              have hE5 := H8.out.hE
              by_cases hc : c = [0]
              · have HX2 := hid (HX.out.trans (if_pos hc))
                have dc : (c == [0]) = true := by rw [hc]; rfl
                have c0 : w8.cell? ⟨H + 1 + 1, 0, none⟩ = some (.string ⟨r5.toArray⟩) := cell_at H8.out.hP 0
                have hemp := str_empty r5
                obtain ⟨T, hT⟩ : ∃ T, (⟨r5.toArray⟩ : ByteArray) = T := ⟨_, rfl⟩
                rw [hT] at c0 hemp
                clear hT HX hc
                by_cases hr5 : r5 = []
                · rw [decide_eq_true hr5] at hemp
                  have HX3 := hid (HX2.out.trans (if_pos hr5))
                  obtain ⟨vS, vV, vG, vC, vH, vO, hq, hv, hf⟩ := H8.out.hQ
                  obtain ⟨aS, cS, rfl⟩ := owns_sl hv.s
                  obtain ⟨aV, cV, rfl⟩ := owns_sl hv.v
                  obtain ⟨aG, cG, rfl⟩ := owns_sl hv.g
                  obtain ⟨aC, cC, rfl⟩ := owns_sl hv.c
                  obtain ⟨aH, cH, rfl⟩ := owns_sl hv.sh
                  obtain ⟨aO, cO, rfl⟩ := owns_sl hv.o
                  have HQ := hid hv
                  have cE8 : w8.cell? ⟨H + 1, 0, none⟩ = some (.int .i64 0) := cell_at hE5 0
                  have fE8 := fun o => free_at (show hget (blk w8 H o) (H + 1) = _ from (blk_other (H + 1) (by omega)).trans hE5)
                  unfold zcells at hH5
                  clear hr5 hf hv hE5
                  go_wp2_with fail
                  exact H8.out.good HH.out HX3.out (.inl rfl) rfl rfl HQ.out
                · rw [decide_eq_false hr5] at hemp
                  have HX3 := hid (HX2.out.trans (if_neg hr5))
                  clear hr5 hE5 hH5 HX2
                  have htx := text_any H8.out.hP 2 (by omega) (by omega)
                  unfold Gives at htx
                  cases hr : HE.text 2 r5 with
                  | none =>
                    rw [hr] at htx
                    have HT := hid htx
                    have HX := hid (HX3.out.trans (by rw [hr]))
                    clear htx hr
                    go_wp2_with fail
                    refine HT.out.mono ?_
                    rintro e w' ⟨ho, rfl⟩
                    exact H8.out.die HH.out ho (fun k e => by omega) HX.out rfl rfl
                  | some ar =>
                    obtain ⟨x, r6⟩ := ar
                    rw [hr] at htx
                    have HT := hid htx
                    obtain ⟨hl8, hl9⟩ := HE.text_some hr
                    have HX := hid (show HE.parse b = if r6 = [] then HE.extN 64 { helZ with random := rnd, session := ses, suites := su } [] x else .error 270 from HX3.out.trans (by rw [hr]))
                    clear htx hr HX3
                    go_wp2_with fail
                    refine HT.out.mono ?_
                    rintro e w9 ⟨ho, v, rfl, hv1, hp9⟩
                    obtain rfl : v = .string ⟨x.toArray⟩ := hv1
                    have H9 := hid (H8.out.out ho hp9)
                    have HEN := hid (ends_any hp9)
                    clear ho hp9 H8 HT c0 hemp
                    go_wp2_with fail
                    refine HEN.out.mono ?_
                    rintro e w10 ⟨rfl, rfl⟩
                    by_cases hr6 : r6 = []
                    · rw [if_pos hr6]
                      have HX2 := hid (HX.out.trans (if_pos hr6))
                      have hxt := exts_any x H9.out.hQ (Nat.lt_succ_self _) H9.out.size (by omega) (by simp [helZ])
                      have HXT := hid hxt
                      clear hxt hr6 HX HEN
                      go_wp2_with fail
                      refine HXT.out.mono ?_
                      rintro e w11 ⟨ho, hx⟩
                      cases hxn : HE.extN 64 { helZ with random := rnd, session := ses, suites := su } [] x with
                      | error c =>
                        have hx' : AfterE (H + 1 + 1 + 1) (H + 1 + 1 + 1 + 1) (.error c) e w11 := hxn ▸ hx
                        obtain rfl : e = pan c := hx'
                        exact H9.out.die HH.out ho (fun k e => by omega) (HX2.out.trans hxn) rfl rfl
                      | ok g =>
                        have hx' : AfterE (H + 1 + 1 + 1) (H + 1 + 1 + 1 + 1) (.ok g) e w11 := hxn ▸ hx
                        obtain ⟨rfl, hh⟩ := hx'
                        have H11 : PW w w11 H r6 g := ⟨ho.get H9.out.hH (by omega), ho.get H9.out.hE (by omega), ho.get H9.out.hP (by omega), hh, H9.out.below.trans (ho.below (fun k e => by omega) (by have := H9.out.size; omega)), Nat.le_trans H9.out.size ho.size⟩
                        have HX3 := hid (HX2.out.trans hxn)
                        have hH5 := H11.hH
                        have hE5 := H11.hE
                        have HP := hid H11
                        clear hx hxn HXT ho HX2 H9 H11
                        obtain ⟨vS, vV, vG, vC, vH, vO, hq, hv, hf⟩ := hh
                        obtain ⟨aS, cS, rfl⟩ := owns_sl hv.s
                        obtain ⟨aV, cV, rfl⟩ := owns_sl hv.v
                        obtain ⟨aG, cG, rfl⟩ := owns_sl hv.g
                        obtain ⟨aC, cC, rfl⟩ := owns_sl hv.c
                        obtain ⟨aH, cH, rfl⟩ := owns_sl hv.sh
                        obtain ⟨aO, cO, rfl⟩ := owns_sl hv.o
                        have HQ := hid hv
                        have cE8 : w11.cell? ⟨H + 1, 0, none⟩ = some (.int .i64 0) := cell_at hE5 0
                        have fE8 := fun o => free_at (show hget (blk w11 H o) (H + 1) = _ from (blk_other (H + 1) (by omega)).trans hE5)
                        unfold zcells at hH5
                        clear hf hv hE5
                        go_wp2_with fail
                        exact HP.out.good HH.out HX3.out (.inl rfl) rfl rfl HQ.out
                    · rw [if_neg hr6]
                      exact H9.out.die HH.out (Out.refl (fun _ => False) _) (fun k e => e.elim) (HX.out.trans (if_neg hr6)) rfl rfl
              · have HX2 := hid (HX.out.trans (if_neg hc))
                have dc : (c == [0]) = false := beq_eq_false_iff_ne.2 hc
                have cE8 : w8.cell? ⟨H + 1, 0, none⟩ = some (.int .i64 0) := cell_at hE5 0
                have fE8 := free_at (show hget (blk w8 H (.cells zcells 38 (0, 0))) (H + 1) = _ from (blk_other (H + 1) (by omega)).trans hE5)
                unfold zcells at hH5 fE8
                clear hc
                go_wp2_with fail
                exact H8.out.bad HH.out HX2.out (.inl rfl) rfl rfl
end
end Go.Proofs.Ytliblhfabnjpkaa

namespace Go.Proofs.Ytliblhfabnjpkaa
open Go Go.RowKit
namespace HE
def is29 (x : Nat × BS) : Bool := x.1 == 29
/-- What is chosen: the share; whether the client is asked anew; the error. -/
def choose (h : Hel) : BS × Bool × Int :=
  if 772 ∈ h.versions then
    (if 4867 ∈ h.suites then
      (if h.groups = [] ∨ h.schemes = [] ∨ h.shared = false then ([], false, 272) else
        (if 2055 ∈ h.schemes ∧ 29 ∈ h.groups then
          (match h.shares.find? is29 with
            | none => ([], true, 0)
            | some x => if x.2.length = 32 then (x.2, false, 0) else ([], false, 271))
        else ([], false, 274)))
    else ([], false, 274))
  else ([], false, 273)
end HE
section
variable {w : World}
theorem ch1_any (g : Nat) (s : ByteArray) : Calls Try.prog 47 #[.agg #[.int .u16 (g : Int), .string s]] w fun e w' => e = .returned (.bool (g == 29)) ∧ Below w.heap.size w w' := by
  have hb := hid (below_new (w := w) (.cells #[.int .u16 (g : Int), .string s] 86))
  have he : ((g : Int) == 29) = (g == 29) := by
    by_cases h : g = 29
    · subst h; rfl
    · rw [beq_eq_false_iff_ne.2 h, beq_eq_false_iff_ne.2 (by omega)]
  go_enter Try.func47, Try.ntmps47
  go_wp2_with fail
  go_ret
  exact ⟨by first | rfl | (rw [← he]; rfl), hb.out⟩
set_option maxHeartbeats 1000000 in
theorem idxf_any {v : Value} {l : List (Nat × HE.BS)} (h : SharesAt w v l) (hl : l.length ≤ 1000000000) : Calls Try.prog 46 #[v, .func (.func 47) #[] #[]] w fun e w' => Below w.heap.size w w' ∧ ∃ i : Int, e = .returned (.int .i64 i) ∧ ((i = -1 ∧ l.find? HE.is29 = none) ∨ ∃ (k : Nat) (x : Nat × HE.BS), i = (k : Int) ∧ l[k]? = some x ∧ l.find? HE.is29 = some x) := by
  obtain ⟨a, c, rfl, hc⟩ := h
  have HC := hid hc
  clear hc
  go_enter Try.func46, Try.ntmps46
  go_wp2_with fail
  go_loopw [8] (fun i wr => ∃ k : Nat, k ≤ l.length ∧ i = .int .i64 (k : Int) ∧ (l.take k).find? HE.is29 = none ∧ Below w.heap.size w wr) (fun i _ => (l.length - intOf i).toNat)
  case atStart => exact ⟨0, Nat.zero_le _, rfl, rfl, Below.refl _ _⟩
  case round =>
    obtain ⟨k, hk, rfl, hn, hb⟩ := hrel
    have HN := hid hn
    have HB := hid hb
    clear hn hb
    by_cases hkl : k < l.length
    · have dk : decide ((k : Int) < (l.length : Int)) = true := decide_eq_true (by omega)
      have hy := List.getElem?_eq_getElem hkl
      obtain ⟨g, rfl, hc1, hc2⟩ := HC.out k _ hy
      have hc1 := (HB.out.cell (p := ⟨g, k * 2, none⟩) (World.block_lt_of_cell? _ _ hc1)).trans hc1
      have hc2 := (HB.out.cell (p := ⟨g, k * 2 + 1, none⟩) (World.block_lt_of_cell? _ _ hc2)).trans hc2
      have htk := List.take_succ_eq_append_getElem hkl
      generalize l[k] = y at *
      obtain ⟨y1, y2⟩ := y
      simp only [] at hc1 hc2
      have HT := hid htk
      have HY := hid hy
      have hi0 : 0 ≤ (k : Int) := by omega
      have hi1 : (k : Int) < (l.length : Int) := by omega
      have hch := hid (ch1_any (w := wr) y1 ⟨y2.toArray⟩)
      clear hy htk
      go_wp2_with fail
      refine hch.out.mono ?_
      rintro e w1 ⟨rfl, hb⟩
      have HB1 := hid (below_to HB.out hb)
      clear hb
      by_cases hy : y1 = 29
      · have d2 : (y1 == 29) = true := by rw [hy]; rfl
        have HF := hid (show l.find? HE.is29 = some (y1, y2) by
          have e : l = l.take (k + 1) ++ l.drop (k + 1) := (List.take_append_drop _ _).symm
          rw [e, List.find?_append, HT.out, List.find?_append, HN.out]
          simp [HE.is29, d2])
        clear hy
        rw [d2]
        go_wp2_with fail
        go_ret
        exact ⟨HB1.out, _, rfl, .inr ⟨k, _, rfl, HY.out, HF.out⟩⟩
      · have d2 : (y1 == 29) = false := beq_eq_false_iff_ne.2 hy
        have HF := hid (show (l.take (k + 1)).find? HE.is29 = none by
          rw [HT.out, List.find?_append, HN.out]
          simp [HE.is29, d2])
        clear hy
        rw [d2]
        go_wp2_with fail
        exact ⟨⟨k + 1, by omega, by go_num, HF.out, HB1.out⟩, by simp only [intOf]; omega⟩
    · have dk : decide ((k : Int) < (l.length : Int)) = false := decide_eq_false (by omega)
      obtain rfl : k = l.length := by omega
      go_wp2_with fail
      go_ret
      exact ⟨HB.out, -1, rfl, .inl ⟨rfl, by have h := HN.out; rwa [List.take_length] at h⟩⟩
/-- A hello, to read. -/
structure HRd (w : World) (h : Hel) (vS vV vG vC vH vO : Value) : Prop where
  s : NumsAt w vS h.suites
  v : NumsAt w vV h.versions
  g : NumsAt w vG h.groups
  c : NumsAt w vC h.schemes
  sh : SharesAt w vH h.shares
  o : NumsAt w vO h.others
  ls : h.suites.length ≤ 1000000000
  lv : h.versions.length ≤ 1000000000
  lg : h.groups.length ≤ 1000000000
  lc : h.schemes.length ≤ 1000000000
  lh : h.shares.length ≤ 1000000000
theorem HRd.keep {w w' : World} {h : Hel} {vS vV vG vC vH vO : Value} (k : HRd w h vS vV vG vC vH vO) (hb : Below w.heap.size w w') : HRd w' h vS vV vG vC vH vO :=
  ⟨k.s.keep hb, k.v.keep hb, k.g.keep hb, k.c.keep hb, k.sh.keep hb, k.o.keep hb, k.ls, k.lv, k.lg, k.lc, k.lh⟩
theorem NumsAt.sl {w : World} {v : Value} {l : List Nat} (h : NumsAt w v l) : ∃ a c, v = .slice a l.length c := by
  obtain ⟨a, c, rfl, _⟩ := h; exact ⟨a, c, rfl⟩
theorem SharesAt.sl {w : World} {v : Value} {l : List (Nat × HE.BS)} (h : SharesAt w v l) : ∃ a c, v = .slice a l.length c := by
  obtain ⟨a, c, rfl, _⟩ := h; exact ⟨a, c, rfl⟩
def chV (r : HE.BS × Bool × Int) : Value := .tuple #[.string ⟨r.1.toArray⟩, .bool r.2.1, .int .i64 r.2.2]
set_option maxHeartbeats 8000000 in
theorem choose_any {h : Hel} {vS vV vG vC vH vO : Value} (hr : HRd w h vS vV vG vC vH vO) : Calls Try.prog 14 #[.agg (helCells h vS vV vG vC vH vO)] w fun e w' => Below w.heap.size w w' ∧ e = .returned (chV (HE.choose h)) := by
  obtain ⟨aS, cS, rfl⟩ := hr.s.sl
  obtain ⟨aV, cV, rfl⟩ := hr.v.sl
  obtain ⟨aG, cG, rfl⟩ := hr.g.sl
  obtain ⟨aC, cC, rfl⟩ := hr.c.sl
  obtain ⟨aH, cH, rfl⟩ := hr.sh.sl
  have hb := below_new (w := w) (.cells (helCells h (.slice aS h.suites.length cS) (.slice aV h.versions.length cV) (.slice aG h.groups.length cG) (.slice aC h.schemes.length cC) (.slice aH h.shares.length cH) vO) 38)
  have hg : hget (w.alloc (.cells (helCells h (.slice aS h.suites.length cS) (.slice aV h.versions.length cV) (.slice aG h.groups.length cG) (.slice aC h.schemes.length cC) (.slice aH h.shares.length cH) vO) 38)) w.heap.size = _ := alloc_at _ _
  have H := hid (hr.keep hb)
  have HB := hid hb
  have HG := hid hg
  clear hr hb hg
  unfold helCells at HG HB H ⊢
  go_enter Try.func14, Try.ntmps14
  go_upto_region 1 with (fail)
  generalize w.alloc (.cells #[.string ⟨h.random.toArray⟩, .string ⟨h.session.toArray⟩, .slice aS h.suites.length cS, .slice aV h.versions.length cV, .slice aG h.groups.length cG, .slice aC h.schemes.length cC, .slice aH h.shares.length cH, .bool h.shared, .string ⟨h.cookie.toArray⟩, .string ⟨h.name.toArray⟩, .bool h.early, vO] 38) = w1 at *
  obtain ⟨X, hX⟩ : ∃ X, w.heap.size = X := ⟨_, rfl⟩
  have HXX := hid hX
  have hg := HG.out
  rw [hX] at hg
  rw [hX]
  clear hX HG
  have c2 : w1.cell? ⟨X, 2, none⟩ = some (.slice aS h.suites.length cS) := cell_at hg 2
  have c3 : w1.cell? ⟨X, 3, none⟩ = some (.slice aV h.versions.length cV) := cell_at hg 3
  have c4 : w1.cell? ⟨X, 4, none⟩ = some (.slice aG h.groups.length cG) := cell_at hg 4
  have c5 : w1.cell? ⟨X, 5, none⟩ = some (.slice aC h.schemes.length cC) := cell_at hg 5
  have c6 : w1.cell? ⟨X, 6, none⟩ = some (.slice aH h.shares.length cH) := cell_at hg 6
  have c7 : w1.cell? ⟨X, 7, none⟩ = some (.bool h.shared) := cell_at hg 7
  have HG := hid hg
  clear hg
  have k3 : Calls Try.prog 45 #[.slice aV h.versions.length cV, .int .u16 772] w1 _ := cont_any H.out.v 772 (by omega) H.out.lv
  have k2 : Calls Try.prog 45 #[.slice aS h.suites.length cS, .int .u16 4867] w1 _ := cont_any H.out.s 4867 (by omega) H.out.ls
  have k5 : Calls Try.prog 45 #[.slice aC h.schemes.length cC, .int .u16 2055] w1 _ := cont_any H.out.c 2055 (by omega) H.out.lc
  have k4 : Calls Try.prog 45 #[.slice aG h.groups.length cG, .int .u16 29] w1 _ := cont_any H.out.g 29 (by omega) H.out.lg
  have k6 := idxf_any H.out.sh H.out.lh
  have K2 := hid k2
  have K3 := hid k3
  have K4 := hid k4
  have K5 := hid k5
  have K6 := hid k6
  clear k2 k3 k4 k5 k6
  go_wp2_with fail
  refine K3.out.mono ?_
  rintro e w' ⟨rfl, rfl⟩
  by_cases h3 : 772 ∈ h.versions
  case neg =>
    have hd : decide (772 ∈ h.versions) = false := decide_eq_false h3
    have HX := hid (show HE.choose h = ([], false, 273) by unfold HE.choose; rw [if_neg h3])
    rw [hd]
    clear h3 hd
    go_wp2_with fail
    refine bodyPost_ret (v := chV ([], false, 273)) (by simp [results, Try.results14, go_sem, chV]) rfl ⟨HB.out, by rw [HX.out]⟩
  have hd3 : decide (772 ∈ h.versions) = true := decide_eq_true h3
  have H3 := hid h3
  rw [hd3]
  clear h3 hd3
  go_wp2_with fail
  refine K2.out.mono ?_
  rintro e w' ⟨rfl, rfl⟩
  by_cases h2 : 4867 ∈ h.suites
  case neg =>
    have hd : decide (4867 ∈ h.suites) = false := decide_eq_false h2
    have HX := hid (show HE.choose h = ([], false, 274) by unfold HE.choose; rw [if_pos H3.out, if_neg h2])
    rw [hd]
    clear h2 hd
    go_wp2_with fail
    refine bodyPost_ret (v := chV ([], false, 274)) (by simp [results, Try.results14, go_sem, chV]) rfl ⟨HB.out, by rw [HX.out]⟩
  have hd2 : decide (4867 ∈ h.suites) = true := decide_eq_true h2
  have H2 := hid h2
  rw [hd2]
  clear h2 hd2
  have kg : ((h.groups.length : Int) == 0) = decide (h.groups = []) := by cases h.groups <;> rfl
  have kc : ((h.schemes.length : Int) == 0) = decide (h.schemes = []) := by cases h.schemes <;> rfl
  have kg2 : (h.groups.length == 0) = decide (h.groups = []) := by cases h.groups <;> rfl
  have kc2 : (h.schemes.length == 0) = decide (h.schemes = []) := by cases h.schemes <;> rfl
  by_cases hm : h.groups = [] ∨ h.schemes = [] ∨ h.shared = false
  case pos =>
    have HX := hid (show HE.choose h = ([], false, 272) by unfold HE.choose; rw [if_pos H3.out, if_pos H2.out, if_pos hm])
    by_cases hg : h.groups = []
    · rw [decide_eq_true hg] at kg kg2
      clear hm hg kc kc2
      go_wp2_with fail
      refine bodyPost_ret (v := chV ([], false, 272)) (by simp [results, Try.results14, go_sem, chV]) rfl ⟨HB.out, by rw [HX.out]⟩
    · rw [decide_eq_false hg] at kg kg2
      by_cases hc : h.schemes = []
      · rw [decide_eq_true hc] at kc kc2
        clear hm hg hc
        go_wp2_with fail
        refine bodyPost_ret (v := chV ([], false, 272)) (by simp [results, Try.results14, go_sem, chV]) rfl ⟨HB.out, by rw [HX.out]⟩
      · rw [decide_eq_false hc] at kc kc2
        have hs : h.shared = false := by rcases hm with hm | hm | hm <;> first | exact absurd hm hg | exact absurd hm hc | exact hm
        rw [hs] at c7
        clear hm hg hc hs
        go_wp2_with fail
        refine bodyPost_ret (v := chV ([], false, 272)) (by simp [results, Try.results14, go_sem, chV]) rfl ⟨HB.out, by rw [HX.out]⟩
  have HM := hid hm
  rw [decide_eq_false (fun e => hm (.inl e))] at kg kg2
  rw [decide_eq_false (fun e => hm (.inr (.inl e)))] at kc kc2
  have hs : h.shared = true := by
    cases hq : h.shared with
    | true => rfl
    | false => exact absurd (.inr (.inr hq)) hm
  rw [hs] at c7
  clear hm hs
  go_wp2_with fail
  clear kg kg2 kc kc2
  refine K5.out.mono ?_
  rintro e w' ⟨rfl, rfl⟩
  by_cases h5 : 2055 ∈ h.schemes
  case neg =>
    have hd : decide (2055 ∈ h.schemes) = false := decide_eq_false h5
    have HX := hid (show HE.choose h = ([], false, 274) by unfold HE.choose; rw [if_pos H3.out, if_pos H2.out, if_neg HM.out, if_neg (fun e => h5 e.1)])
    rw [hd]
    clear h5 hd
    go_wp2_with fail
    refine bodyPost_ret (v := chV ([], false, 274)) (by simp [results, Try.results14, go_sem, chV]) rfl ⟨HB.out, by rw [HX.out]⟩
  have hd5 : decide (2055 ∈ h.schemes) = true := decide_eq_true h5
  have H5 := hid h5
  rw [hd5]
  clear h5 hd5
  go_wp2_with fail
  refine K4.out.mono ?_
  rintro e w' ⟨rfl, rfl⟩
  by_cases h4 : 29 ∈ h.groups
  case neg =>
    have hd : decide (29 ∈ h.groups) = false := decide_eq_false h4
    have HX := hid (show HE.choose h = ([], false, 274) by unfold HE.choose; rw [if_pos H3.out, if_pos H2.out, if_neg HM.out, if_neg (fun e => h4 e.2)])
    rw [hd]
    clear h4 hd
    go_wp2_with fail
    refine bodyPost_ret (v := chV ([], false, 274)) (by simp [results, Try.results14, go_sem, chV]) rfl ⟨HB.out, by rw [HX.out]⟩
  have hd4 : decide (29 ∈ h.groups) = true := decide_eq_true h4
  have HX := hid (show HE.choose h = (match h.shares.find? HE.is29 with | none => ([], true, 0) | some x => if x.2.length = 32 then (x.2, false, 0) else ([], false, 271)) by unfold HE.choose; rw [if_pos H3.out, if_pos H2.out, if_neg HM.out, if_pos ⟨H5.out, h4⟩])
  rw [hd4]
  clear h4 hd4
  go_wp2_with fail
  refine K6.out.mono ?_
  rintro e w2 ⟨hb2, i, rfl, hi⟩
  have HB2 := hid (below_to HB.out hb2)
  have HH2 := hid (H.out.keep hb2)
  have hg2 := keepB hb2 HG.out
  have c6' : w2.cell? ⟨X, 6, none⟩ = some (.slice aH h.shares.length cH) := cell_at hg2 6
  clear c2 c3 c4 c5 c6 c7 hb2 hg2 HB H HG K2 K3 K4 K5 K6 H2 H3 H5 HM
  rcases hi with ⟨rfl, hf⟩ | ⟨k, x, rfl, hx, hf⟩
  · have HX2 := hid (show HE.choose h = ([], true, 0) by rw [HX.out, hf])
    clear hf
    go_wp2_with fail
    refine bodyPost_ret (v := chV ([], true, 0)) (by simp [results, Try.results14, go_sem, chV]) rfl ⟨HB2.out, by rw [HX2.out]⟩
  · have HX2 := hid (show HE.choose h = if x.2.length = 32 then (x.2, false, 0) else ([], false, 271) by rw [HX.out, hf])
    obtain ⟨a', c', hsl, hcs⟩ := HH2.out.sh
    obtain ⟨g, hg, hc1, hc2⟩ := hcs k x hx
    injection hsl with e1 e2 e3
    subst e1 e3
    subst hg
    have hkl : k < h.shares.length := (List.getElem?_eq_some_iff.1 hx).1
    have dk : decide ((k : Int) < 0) = false := decide_eq_false (by omega)
    have hi0 : 0 ≤ (k : Int) := by omega
    have hi1 : (k : Int) < (h.shares.length : Int) := by omega
    have hs := text_size x.2
    obtain ⟨x1, x2⟩ := x
    simp only [] at hs hc2 HX2
    obtain ⟨S, hS⟩ : ∃ S, (⟨x2.toArray⟩ : ByteArray) = S := ⟨_, rfl⟩
    rw [hS] at hs hc2
    have HS := hid hS
    clear hf hcs hc1 hx hS e2
    by_cases h32 : x2.length = 32
    · have d1 : ((x2.length : Int) != 32) = false := by rw [h32]; rfl
      have d2 : (x2.length != 32) = false := by rw [h32]; rfl
      have HX3 := hid (HX2.out.trans (if_pos h32))
      clear h32
      go_wp2_with fail
      refine bodyPost_ret (v := chV (x2, false, 0)) (by simp [results, Try.results14, go_sem, chV, HS.out]) rfl ⟨HB2.out, by rw [HX3.out]⟩
    · have d1 : ((x2.length : Int) != 32) = true := bne_iff_ne.2 (by omega)
      have d2 : (x2.length != 32) = true := bne_iff_ne.2 h32
      have HX3 := hid (HX2.out.trans (if_neg h32))
      clear h32
      go_wp2_with fail
      refine bodyPost_ret (v := chV ([], false, 271)) (by simp [results, Try.results14, go_sem, chV]) rfl ⟨HB2.out, by rw [HX3.out]⟩
end
end Go.Proofs.Ytliblhfabnjpkaa

namespace Go.Proofs.Ytliblhfabnjpkaa
namespace HE
theorem pairs_good : ∀ (t : BS) (l : List Nat), pairs t = some l → (∀ x ∈ l, x < 65536) ∧ l.length ≤ t.length
  | [], l, h => by injection h with h; subst h; simp
  | [_], l, h => by cases h
  | a :: b :: r, l, h => by
    rw [show pairs (a :: b :: r) = (pairs r).map fun l => (a.toNat * 256 + b.toNat) :: l from rfl] at h
    cases hr : pairs r with
    | none => rw [hr] at h; cases h
    | some m =>
      rw [hr] at h
      injection h with h
      subst h
      obtain ⟨h1, h2⟩ := pairs_good r m hr
      have := a.toNat_lt
      have := b.toNat_lt
      refine ⟨fun x hx => ?_, by simp only [List.length_cons]; omega⟩
      rcases List.mem_cons.1 hx with rfl | hx
      · omega
      · exact h1 x hx
theorem numbers_good {n : Nat} {t r : BS} {l : List Nat} (h : numbers n t = some (l, r)) : (∀ x ∈ l, x < 65536) ∧ l.length ≤ t.length ∧ r.length ≤ t.length := by
  unfold numbers at h
  cases hs : some' n t with
  | none => rw [hs] at h; cases h
  | some p =>
    rw [hs] at h
    simp only [Option.bind_some] at h
    cases hp : pairs p.1 with
    | none => rw [hp] at h; cases h
    | some m =>
      rw [hp] at h
      injection h with h
      injection h with h1 h2
      subst h1 h2
      obtain ⟨k1, k2⟩ := pairs_good _ _ hp
      obtain ⟨k3, k4⟩ := text_some (some_some hs).1
      exact ⟨k1, Nat.le_trans k2 k4, k3⟩
/-- A hello of numbers of two bytes, none of its lists longer than n. -/
structure Good (h : Hel) (n : Nat) : Prop where
  s : (∀ x ∈ h.suites, x < 65536) ∧ h.suites.length ≤ n
  v : (∀ x ∈ h.versions, x < 65536) ∧ h.versions.length ≤ n
  g : (∀ x ∈ h.groups, x < 65536) ∧ h.groups.length ≤ n
  c : (∀ x ∈ h.schemes, x < 65536) ∧ h.schemes.length ≤ n
  sh : (∀ x ∈ h.shares, x.1 < 65536) ∧ h.shares.length ≤ n
  o : ∀ x ∈ h.others, x < 65536
theorem share_good {t : BS} {l : List (Nat × BS)} (h : sharesX t = .ok l) : (∀ x ∈ l, x.1 < 65536) ∧ l.length ≤ t.length := by
  unfold sharesX at h
  cases ht : text 2 t with
  | none => rw [ht] at h; cases h
  | some p =>
    obtain ⟨s, r⟩ := p
    rw [ht] at h
    simp only [] at h
    split at h
    · cases hs : shareL s with
      | none => rw [hs] at h; cases h
      | some m =>
        rw [hs] at h
        simp only [] at h
        split at h
        · injection h with h
          subst h
          exact ⟨sharesN_lt _ _ _ hs, Nat.le_trans (sharesN_len _ _ _ hs) (text_some ht).2⟩
        · cases h
    · cases h
theorem put_good {h h' : Hel} {n k : Nat} {d : BS} (hg : Good h n) (hk : k < 65536) (hd : d.length ≤ n) (e : put h k d = .ok h') : Good h' n := by
  have hp : ∀ x, parsed h k d = .ok x → Good x.1 n := by
    intro x hx
    unfold parsed at hx
    split at hx
    · cases hr : name d with
      | none => rw [hr] at hx; cases hx
      | some y => rw [hr] at hx; injection hx with hx; subst hx; exact ⟨hg.s, hg.v, hg.g, hg.c, hg.sh, hg.o⟩
    split at hx
    · cases hr : numbers 2 d with
      | none => rw [hr] at hx; cases hx
      | some y => rw [hr] at hx; injection hx with hx; subst hx; obtain ⟨k1, k2, _⟩ := numbers_good hr; exact ⟨hg.s, hg.v, ⟨k1, Nat.le_trans k2 hd⟩, hg.c, hg.sh, hg.o⟩
    split at hx
    · cases hr : numbers 2 d with
      | none => rw [hr] at hx; cases hx
      | some y => rw [hr] at hx; injection hx with hx; subst hx; obtain ⟨k1, k2, _⟩ := numbers_good hr; exact ⟨hg.s, hg.v, hg.g, ⟨k1, Nat.le_trans k2 hd⟩, hg.sh, hg.o⟩
    split at hx
    · cases hr : numbers 1 d with
      | none => rw [hr] at hx; cases hx
      | some y => rw [hr] at hx; injection hx with hx; subst hx; obtain ⟨k1, k2, _⟩ := numbers_good hr; exact ⟨hg.s, ⟨k1, Nat.le_trans k2 hd⟩, hg.g, hg.c, hg.sh, hg.o⟩
    split at hx
    · cases hr : some' 2 d with
      | none => rw [hr] at hx; cases hx
      | some y => rw [hr] at hx; injection hx with hx; subst hx; exact ⟨hg.s, hg.v, hg.g, hg.c, hg.sh, hg.o⟩
    split at hx
    · injection hx with hx; subst hx; exact ⟨hg.s, hg.v, hg.g, hg.c, hg.sh, hg.o⟩
    split at hx
    · cases hs : sharesX d with
      | error c => rw [hs] at hx; cases hx
      | ok l => rw [hs] at hx; injection hx with hx; subst hx; obtain ⟨k1, k2⟩ := share_good hs; exact ⟨hg.s, hg.v, hg.g, hg.c, ⟨k1, Nat.le_trans k2 hd⟩, hg.o⟩
    · injection hx with hx
      subst hx
      refine ⟨hg.s, hg.v, hg.g, hg.c, hg.sh, fun x hx => ?_⟩
      rcases List.mem_append.1 hx with hx | hx
      · exact hg.o x hx
      · rw [List.mem_singleton] at hx; subst hx; exact hk
  unfold put at e
  cases hq : parsed h k d with
  | error c => rw [hq] at e; cases e
  | ok x =>
    rw [hq] at e
    simp only [] at e
    split at e
    · injection e with e; subst e; exact hp _ hq
    · cases e
theorem ext1_good {s d r : BS} {k : Nat} (h : ext1 s = some (k, d, r)) : k < 65536 ∧ d.length ≤ s.length ∧ r.length ≤ s.length := by
  unfold ext1 at h
  cases hn : num 2 s with
  | none => rw [hn] at h; cases h
  | some p =>
    rw [hn] at h
    simp only [Option.bind_some] at h
    cases ht : text 2 p.2 with
    | none => rw [ht] at h; cases h
    | some q =>
      rw [ht] at h
      injection h with h
      injection h with h1 h2
      injection h2 with h2 h3
      subst h1 h2 h3
      obtain ⟨k1, k2⟩ := num_some hn
      obtain ⟨k3, k4⟩ := text_some ht
      exact ⟨k2, Nat.le_trans k4 k1, Nat.le_trans k3 k1⟩
theorem extN_good : ∀ (m : Nat) (h h' : Hel) (l : List Nat) (s : BS) (n : Nat), Good h n → s.length ≤ n → extN m h l s = .ok h' → Good h' n
  | 0, h, h', l, s, n, hg, hs, e => by
    unfold extN at e
    split at e
    · injection e with e; subst e; exact hg
    · cases e
  | m + 1, h, h', l, s, n, hg, hs, e => by
    unfold extN at e
    split at e
    · injection e with e; subst e; exact hg
    · cases hx : ext1 s with
      | none => rw [hx] at e; cases e
      | some x =>
        obtain ⟨k, d, r⟩ := x
        rw [hx] at e
        simp only [] at e
        obtain ⟨g1, g2, g3⟩ := ext1_good hx
        split at e
        · cases e
        · cases hp : put h k d with
          | error c => rw [hp] at e; cases e
          | ok h2 =>
            rw [hp] at e
            exact extN_good m h2 h' (l ++ [k]) r n (put_good hg g1 (by omega) hp) (by omega) e
theorem parse_good {b : BS} {h : Hel} (e : parse b = .ok h) : Good h b.length := by
  have hz : ∀ (rnd ses : BS) (su : List Nat) (n : Nat), (∀ x ∈ su, x < 65536) → su.length ≤ n → Good { helZ with random := rnd, session := ses, suites := su } n := fun rnd ses su n h1 h2 =>
    ⟨⟨h1, h2⟩, ⟨by simp [helZ], by simp [helZ]⟩, ⟨by simp [helZ], by simp [helZ]⟩, ⟨by simp [helZ], by simp [helZ]⟩, ⟨by simp [helZ], by simp [helZ]⟩, by simp [helZ]⟩
  unfold parse at e
  cases hst : start b with
  | none => rw [hst] at e; cases e
  | some x =>
    obtain ⟨rnd, ses, r⟩ := x
    rw [hst] at e
    simp only [] at e
    have hr : r.length ≤ b.length := by
      unfold start at hst
      cases h1 : take 2 b with
      | none => rw [h1] at hst; cases hst
      | some p =>
        rw [h1] at hst
        simp only [Option.bind_some] at hst
        cases h2 : take 32 p.2 with
        | none => rw [h2] at hst; cases hst
        | some q =>
          rw [h2] at hst
          simp only [Option.bind_some] at hst
          cases h3 : text 1 q.2 with
          | none => rw [h3] at hst; cases hst
          | some y =>
            rw [h3] at hst
            injection hst with hst
            injection hst with _ hst
            injection hst with _ hst
            subst hst
            obtain ⟨k1, k2, k3⟩ := take_some h1
            obtain ⟨k4, k5, k6⟩ := take_some h2
            have k7 := (text_some h3).1
            have k8 : p.2.length ≤ b.length := by rw [k3, List.length_drop]; omega
            have k9 : q.2.length ≤ p.2.length := by rw [k6, List.length_drop]; omega
            omega
    split at e
    · cases e
    · unfold body2 at e
      cases hn : numbers 2 r with
      | none => rw [hn] at e; cases e
      | some y =>
        obtain ⟨su, r4⟩ := y
        rw [hn] at e
        simp only [] at e
        obtain ⟨n1, n2, n3⟩ := numbers_good hn
        cases ht : text 1 r4 with
        | none => rw [ht] at e; cases e
        | some z =>
          obtain ⟨c, r5⟩ := z
          rw [ht] at e
          simp only [] at e
          have t1 := (text_some ht).1
          split at e
          · split at e
            · injection e with e; subst e; exact hz _ _ _ _ n1 (by omega)
            · cases hx : text 2 r5 with
              | none => rw [hx] at e; cases e
              | some q =>
                obtain ⟨x, r6⟩ := q
                rw [hx] at e
                simp only [] at e
                have t2 := (text_some hx).2
                split at e
                · exact extN_good 64 _ h [] x _ (hz _ _ _ _ n1 (by omega)) (by omega) e
                · cases e
          · cases e
end HE
/-- What Parse hands back may be read. -/
theorem HVals.read {w : World} {B n : Nat} {h : Hel} {vS vV vG vC vH vO : Value} (hv : HVals w B h vS vV vG vC vH vO) (hg : HE.Good h n) (hn : n ≤ 1000000000) : HRd w h vS vV vG vC vH vO :=
  ⟨NumsAt.of hv.s hg.s.1, NumsAt.of hv.v hg.v.1, NumsAt.of hv.g hg.g.1, NumsAt.of hv.c hg.c.1, SharesAt.of hv.sh, NumsAt.of hv.o hg.o, Nat.le_trans hg.s.2 hn, Nat.le_trans hg.v.2 hn, Nat.le_trans hg.g.2 hn, Nat.le_trans hg.c.2 hn, Nat.le_trans hg.sh.2 hn⟩
theorem good_zero : HE.Good helZ 0 := ⟨⟨by simp [helZ], by simp [helZ]⟩, ⟨by simp [helZ], by simp [helZ]⟩, ⟨by simp [helZ], by simp [helZ]⟩, ⟨by simp [helZ], by simp [helZ]⟩, ⟨by simp [helZ], by simp [helZ]⟩, by simp [helZ]⟩
end Go.Proofs.Ytliblhfabnjpkaa
