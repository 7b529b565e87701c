/- The walks of layer 20's alive and LayoutCells: true at every input; nothing that was there is turned. -/
import Derived.Test.YtfbfpiibmgofeaaRefWhat
namespace Go.Proofs.Ytfbfpiibmgofeaa.Q
open Go.RowKit Go.Proofs.YtfbfpiibmgofeaaW.PrintWords Go.Proofs.YtfbfpiibmgofeaaW.PrintLast Go.Proofs.YtfbfpiibmgofeaaW.PrintMore
theorem wf_small (n : Int) (h1 : -9223372036854775808 ≤ n) (h2 : n ≤ 9223372036854775807) : (Lit.int .i64 n).wf = true := by
  simp [Lit.wf, IntKind.min, IntKind.max, IntKind.signed, IntKind.bits]; omega
theorem what74 : whatN 74 = (7, 1, 2) := by decide
theorem at712 : atN 7 1 2 = 74 := by decide
theorem at240 : atN 2 4 0 = -1 := by decide
set_option maxHeartbeats 400000 in
theorem alive_walk (w : World) : Calls Try.prog 11 #[] w fun e w' => e = .returned (.bool true) ∧ Below w.heap.size w w' := by
  have c1 := fun w => what_walk 74 (wf_small _ (by decide) (by decide)) w
  have c2 := fun w => at_walk 7 1 2 (wf_small _ (by decide) (by decide)) (wf_small _ (by decide) (by decide)) w
  have c3 := fun w => at_walk 2 4 0 (wf_small _ (by decide) (by decide)) (wf_small _ (by decide) (by decide)) w
  rw [what74] at c1
  rw [at712] at c2
  rw [at240] at c3
  replace c1 := Aside0.mk c1
  replace c2 := Aside0.mk c2
  replace c3 := Aside0.mk c3
  go_enter Try.func11, Try.ntmps11
  go_wp2_with fail
  refine (c1.out _).mono ?_
  rintro e w1 ⟨rfl, h1⟩
  go_wp2_with fail
  refine (c2.out _).mono ?_
  rintro e w2 ⟨rfl, h2⟩
  go_wp2_with fail
  refine (c3.out _).mono ?_
  rintro e w3 ⟨rfl, h3⟩
  go_wp2_with fail
  go_ret
  exact ⟨rfl, below_step (below_step h1 h2) h3⟩
set_option maxHeartbeats 400000 in
theorem cells_walk (W : World) (kind : Int) (_hkind : (Lit.int .i64 kind).wf = true) (i : Int) (hi : (Lit.int .i64 i).wf = true) (k : Int) (hk : (Lit.int .i64 k).wf = true) :
    Calls Try.prog 3 #[.int .i64 kind, .int .i64 i, .int .i64 k] W fun e w' => e = .returned (.bool true) ∧ Below W.heap.size W w' := by
  have c1 := fun w => what_walk i hi w
  have c2 := fun w => futtockref20_What.calls 4000 i (whatN i).1 (whatN i).2.1 (whatN i).2.2 w (rwhat_eq i 4000 (by decide))
  have c3 := fun w => at_walk kind i k hi hk w
  have c4 := fun w => futtockref20_At.calls 1 kind i k _ w (rat_eq 0 kind i k)
  generalize whatN i = p at c1 c2
  obtain ⟨p, q, r⟩ := p
  generalize atN kind i k = a at c3 c4
  replace c1 := Aside0.mk c1
  replace c2 := Aside0.mk c2
  replace c3 := Aside0.mk c3
  replace c4 := Aside0.mk c4
  clear hi hk
  go_enter Try.func3, Try.ntmps3
  go_wp2_with fail
  refine (c1.out _).mono ?_
  rintro e w1 ⟨rfl, h1⟩
  go_wp2_with fail
  refine (c2.out _).mono ?_
  rintro e w2 ⟨rfl, h2⟩
  go_wp2_with fail
  refine (c3.out _).mono ?_
  rintro e w3 ⟨rfl, h3⟩
  go_wp2_with fail
  refine (c4.out _).mono ?_
  rintro e w4 ⟨rfl, h4⟩
  go_wp2_with fail
  refine (alive_walk _).mono ?_
  rintro e w5 ⟨rfl, h5⟩
  go_wp2_with fail
  go_ret
  exact ⟨rfl, below_step (below_step (below_step (below_step h1 h2) h3) h4) h5⟩
end Go.Proofs.Ytfbfpiibmgofeaa.Q
