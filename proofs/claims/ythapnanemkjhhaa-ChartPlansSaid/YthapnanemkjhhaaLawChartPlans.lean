/- ChartPlans: for every input the law returns true, and the arguments read afterwards as before. No condition. -/
import Derived.Test.YthapnanemkjhhaaRows
import Derived.Test.YthapnanemkjhhaaPlansW
import Derived.Test.YthapnanemkjhhaaPost
import Derived.Test.YthapnanemkjhhaaOpen2
import Derived.ProofKit
import Derived.OpenShut
import Derived.SizedLaws
import Derived.ShutString
namespace Go.Proofs.Ythapnanemkjhhaa.chartPlans
open Go.ChangeShapes Go.WideShapes Go.ChangeAt Go.RowKit
open Go.ChangeMaps (open_string shut_string)
set_option linter.unusedVariables false

theorem own : ownKnob Try.prog.godebug = none := by kernel_rfl

set_option maxRecDepth 100000 in
theorem lifted (os : Os) (started : os.Started) (H : Type) (enc : TypeId × Value → H) :
    ReturnsInHanded {} Try.checked os 4 .any (Rows.chartPlansSpec.pre6 enc Try.prog Try.f4 Rows.chartPlansRow.domain false) (Rows.chartPlansSpec.post enc Try.prog Try.f4 false true false false) := by
  refine returnsInHanded_of_change_sized (C := Try.checked) own started (by kernel_rfl) Try.func4
    (ChangeSpec.witness6 (enc := enc) (C := Try.checked) false ⟨#[], #[.agg #[.slice none 0 0, .slice none 0 0, .slice none 0 0, .int .i64 0, .int .i64 0]], []⟩ 8 (by kernel_rfl) (by kernel_rfl) (by kernel_rfl) (by kernel_rfl)) ?_
  intro W base args ds gs before hval0 hW hcnd hsz0 _
  have hval : ∀ (j : Nat) t v, Try.f4.params[j]? = some t → args[j]? = some v → Value.okWide Try.prog W .any base t v := hval0
  have hsz : (DataW.weightsEach Try.prog (Try.f4.params.toList ++ Rows.chartPlansSpec.plain.varTypes Try.prog) (ds ++ gs)).all (· ≤ reachBytes) = true := hsz0
  have hW' := hW
  obtain ⟨p, q, hA0, hV, rfl, hfz, hnd⟩ := hW
  have hA : DataW.TrodAll enc Try.prog W 0 (fun _ => true) true Try.f4.params.toList args.toList ds p := hA0
  rw [Try.params4] at hA hval hsz
  obtain ⟨rfl, rfl⟩ := trodVars_none hV
  clear hA0 hval0 hsz0
  simp only [List.append_nil] at hW' hsz
  have hltp : ∀ x ∈ p, x.block < W.heap.size := fun x hx => hW'.lt x hx
  have hagain := fun (W' : World) (hb : Below W.heap.size W W') (sp : Nat → Bool) (hsp : ∀ x ∈ p, sp x.block = true) => trodAll_below (by kernel_rfl : laidOutB Try.prog = true) hb sp (by kernel_rfl) hA hltp hsp
  obtain ⟨v0, vs0, d0, ds0, p0, q0, hargs, rfl, rfl, h0, r0⟩ := trodAll_cons hA
  obtain ⟨rfl, rfl, rfl⟩ := trodAll_nil r0
  obtain rfl : args = #[v0] := by cases args; simp_all
  obtain ⟨cs0, n0, xs0, rfl, sz0, rfl, rfl, ln0, fd0⟩ := open_cells Try.underlying40 (by kernel_rfl) (hval 0 40 v0 rfl rfl) h0
  obtain ⟨c0_0, c0_1, c0_2, c0_3, c0_4, rfl⟩ := arr5 (sz0.trans (by kernel_rfl))
  obtain ⟨y0_0, y0_1, y0_2, y0_3, y0_4, rfl⟩ := lis5 ln0
  have f0_0 := fd0 0 _ _ rfl rfl
  obtain ⟨zs0_0, s0_0, z0_0⟩ := strings_of_trod Try.underlying22 Try.underlying9 (by kernel_rfl) f0_0 (fun x hx => hltp x (by simp [hx])) (fun n hn => by simpa using List.all_eq_true.1 hsz n (weightsEach_mem (i := 0) rfl rfl (weights_field Try.underlying40 (i := 0) rfl rfl hn)))
  have f0_1 := fd0 1 _ _ rfl rfl
  obtain ⟨zs0_1, s0_1, w0_1⟩ := ints_of_trod Try.underlying23 Try.underlying3 (by kernel_rfl) f0_1 (fun x hx => hltp x (by simp [hx]))
  have f0_2 := fd0 2 _ _ rfl rfl
  obtain ⟨zs0_2, s0_2, w0_2⟩ := ints_of_trod Try.underlying23 Try.underlying3 (by kernel_rfl) f0_2 (fun x hx => hltp x (by simp [hx]))
  have f0_3 := fd0 3 _ _ rfl rfl
  obtain ⟨a0_3, e0_3, -, w0_3⟩ := DataW.trod_int Try.underlying3 f0_3
  obtain rfl : c0_3 = .int .i64 a0_3 := by simpa using e0_3
  have f0_4 := fd0 4 _ _ rfl rfl
  obtain ⟨a0_4, e0_4, -, w0_4⟩ := DataW.trod_int Try.underlying3 f0_4
  obtain rfl : c0_4 = .int .i64 a0_4 := by simpa using e0_4
  refine (plans_walk c0_0 c0_1 c0_2 zs0_0 zs0_1 zs0_2 a0_3 a0_4 W s0_0 s0_1 s0_2 z0_0).mono fun e W' ⟨he, hg⟩ => ?_
  subst he
  exact ⟨_, rfl, post_of_below (pv := []) hW' (fun _ _ _ => (trodAll_cons_mk (shut_bool Try.underlying4 _) trodAll_mk0)) (fun sp hsp => hagain W' hg sp hsp) (fun _ _ => rfl) (List.append_nil _).symm hg (ok_one (by kernel_rfl) rfl (okWide_bool_mk Try.underlying4 _))⟩

theorem over : Rows.chartPlansRow.holds Try.pinned (OpenSpec.ofChange Rows.chartPlansSpec) :=
  OpenClaim.holds_of_wide 4 Try.f4 rfl rfl rfl rfl rfl rfl rfl ⟨rfl, rfl, rfl, rfl, rfl⟩ rfl rfl rfl rfl rfl (by kernel_rfl) Try.func4 (by kernel_rfl)
    (of_decide_eq_true (by kernel_rfl)) (by unfold Func.isWrapper; first | (rw [if_pos (by decide +kernel)]; kernel_rfl) | (rw [if_neg (by decide +kernel)]; exact ⟨rfl, rfl⟩))
    (fun os started H enc _ => lifted os started H enc)

theorem proved : Rows.ChartPlansSaid :=
  over
#print axioms proved
end Go.Proofs.Ythapnanemkjhhaa.chartPlans
