/-
  The law FnExactIsCalendar: for every input it returns true, and each argument reads afterwards as it read before.
  No conditions.
-/
import Derived.Test.YtkbmlpnfdogioaaRows
import Derived.Test.YtkbmlpnfdogioaaCalLaws3
import Derived.Deep.SlicePairs
import Derived.WalkKit
import Derived.ProofKit
import Derived.OpenShut
import Derived.ShutString
import Derived.ChangeOld
import Derived.Below
import Derived.Carry
import Derived.Lib.SmallJoins
namespace Go.Proofs.Ytkbmlpnfdogioaa.fnExactIsCalendar
open Go.ChangeShapes Go.WideShapes Go.ChangeAt Go.RowKit Go.Joins
open Go.ChangeMaps (open_string shut_string)
set_option linter.unusedVariables false

theorem own : ownKnob Try.prog.godebug = none := by kernel_rfl
theorem laidOut : laidOutB Try.prog = true := by kernel_rfl

set_option maxRecDepth 100000 in
theorem lifted (os : Os) (started : os.Started) (H : Type) (enc : TypeId × Value → H) :
    ReturnsInHanded {} Try.checked os 3 .any (Rows.fnExactIsCalendarSpec.pre6 enc Try.prog Try.f3 Rows.fnExactIsCalendarRow.domain false) (Rows.fnExactIsCalendarSpec.post enc Try.prog Try.f3 false true false false) := by
  refine returnsInHanded_of_change (C := Try.checked) own started (by kernel_rfl) Try.func3
    (ChangeSpec.witness6 (enc := enc) (C := Try.checked) false ⟨#[], #[.agg #[.slice none 0 0, .slice none 0 0]], []⟩ 8 (by kernel_rfl) (by kernel_rfl) (by kernel_rfl) (by kernel_rfl)) ?_
  intro W base args ds gs before hval0 hW hcnd _
  have hval : ∀ (j : Nat) t v, Try.f3.params[j]? = some t → args[j]? = some v → Value.okWide Try.prog W .any base t v := hval0
  have hW' := hW
  obtain ⟨p, q, hA0, hV, rfl, hfz, hnd⟩ := hW
  have hA : DataW.TrodAll enc Try.prog W 0 (fun _ => true) true Try.f3.params.toList args.toList ds p := hA0
  rw [Try.params3] at hA hval
  obtain ⟨v0, vs0, d0, ds0, p0, q0, hargs, rfl, rfl, h0, r0⟩ := trodAll_cons hA
  obtain ⟨rfl, rfl, rfl⟩ := trodAll_nil r0
  obtain rfl : args = #[v0] := by cases args; simp_all
  obtain ⟨rfl, rfl⟩ := trodVars_none hV
  have k0 := h0
  have lt0 : ∀ x ∈ p0, x.block < W.heap.size := by obtain ⟨m, hm⟩ := k0; exact DataW.trod_lt m _ _ _ hm
  obtain ⟨c0, b00, y0, z0, m0, rfl, rfl, rfl, hy0, hz0⟩ := open_agg2 Try.underlying25 (by kernel_rfl) (by kernel_rfl) (hval 0 25 v0 rfl rfl) h0
  obtain ⟨A0, n0, k0c, f0, rfl, wk0⟩ : ∃ A n c zs, c0 = .slice A n c ∧ IntsF W A n c zs := by
    rcases open_ints Try.underlying22 Try.underlying3 (by kernel_rfl) hy0 with ⟨hcs, _⟩ | ⟨x, l, c, zs, hcs, _, hl, hm, hz, _, hcell, hwz⟩
    · simp at hcs
      exact ⟨_, _, _, fun _ => 0, hcs, IntsF.empty _ _ _ (by omega) _⟩
    · simp at hcs
      exact ⟨_, _, _, _, hcs, ints_open hl (by unfold maxLen at hm; omega) (by simpa using hz) hcell hwz⟩
  obtain ⟨B0, m0n, k0d, dy0, hr0, rfl, we0⟩ : ∃ A n c dy hr, b00 = .slice A n c ∧ ExcOpen W A n c dy hr := by
    rcases Go.Deep.open_slice_pairs Try.underlying23 Try.underlying62 (by kernel_rfl) rfl rfl (by kernel_rfl) (by kernel_rfl) hz0 with ⟨hcs, _⟩ | ⟨x, l, c, mm, nn, V0, V1, D0, D1, P0, P1, hcs, _, hl, hm, hmm, _, hcell⟩
    · simp at hcs
      exact ⟨_, _, _, fun _ => 0, fun _ => 0, hcs, exc_none W⟩
    · simp at hcs
      have key : ∀ i, i < l → ∃ q : Int × Int, W.cell? (x.add (i * 2)) = some (.int .i64 q.1) ∧ W.cell? (x.add (i * 2 + 1)) = some (.int .i64 q.2) ∧ (Lit.int .i64 q.1).wf = true ∧ (Lit.int .i64 q.2).wf = true := fun i hi => by
        obtain ⟨e0, e1, e2, e3⟩ := hcell i (by rw [hmm]; split <;> omega)
        obtain ⟨p, hp, _, wp⟩ := DataW.trod_int Try.underlying3 e2
        obtain ⟨r, hr, _, wr⟩ := DataW.trod_int Try.underlying3 e3
        simp at hp hr
        exact ⟨(p, r), by rw [e0, hp], by rw [e1, hr], wp, wr⟩
      exact ⟨_, _, _, _, _, hcs, exc_open hl (by unfold maxLen at hm; omega) (Go.Deep.choose_lt key).choose_spec⟩
  clear hA0 hval0
  refine (law_IsCalendar W A0 n0 k0c f0 B0 m0n k0d dy0 hr0 (we0.cal wk0)).mono fun e W' ⟨he, bel⟩ => ?_
  subst he
  exact ⟨_, rfl, _, _, _, [], _, [], hW', trodAll_mk1 (shut_bool Try.underlying4 _), (trodAll_cons_mk (Below.trod laidOut (by kernel_rfl) (of_decide_eq_true (by kernel_rfl)) k0 bel lt0) trodAll_mk0), rfl, bel.frame _, fun h => by cases h⟩

theorem over : Rows.fnExactIsCalendarRow.holds Try.pinned (OpenSpec.ofChange Rows.fnExactIsCalendarSpec) :=
  OpenClaim.holds_of_wide 3 Try.f3 rfl rfl rfl rfl rfl rfl rfl ⟨rfl, rfl, rfl, rfl, rfl⟩ rfl rfl rfl rfl rfl (by kernel_rfl) Try.func3 (by kernel_rfl)
    (of_decide_eq_true (by kernel_rfl)) (by unfold Func.isWrapper; first | (rw [if_pos (by decide +kernel)]; kernel_rfl) | (rw [if_neg (by decide +kernel)]; exact ⟨rfl, rfl⟩))
    (fun os started H enc _ => lifted os started H enc)

/-- the statement -/
theorem proved : Rows.FnExactIsCalendarSaid := over
#print axioms proved
end Go.Proofs.Ytkbmlpnfdogioaa.fnExactIsCalendar
