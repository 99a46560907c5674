import Derived.Test.YtojlffnlenldiaaDoorP5
namespace Go.Proofs.YtojlffnlenldiaaDoor.F
open Go.RowKit Go.Proofs.YtojlffnlenldiaaDoorW.PrintWords Go.Proofs.YtojlffnlenldiaaDoorW.PrintLast Go.Proofs.YtojlffnlenldiaaDoorW.PrintMore
set_option linter.unusedVariables false
set_option linter.unusedSimpArgs false
theorem eqCall_ev (c : Call) (h1 : c.path.length ≤ 4611686018427387904) (h2 : c.dest.length ≤ 4611686018427387904) : Ev (fun k => laws_eqCall.f k c.kind c.path c.dest c.num c.data c.kind c.path c.dest c.num c.data) true := by
  unfold laws_eqCall.f
  simp only [if_true]
  refine Ev.bind (eqStringS_ev c.path c.path h1) ?_
  simp only [decide_true, if_true]
  refine Ev.bind (eqStringS_ev c.dest c.dest h2) ?_
  simp only [decide_true, if_true]
  exact Ev.now _
theorem markCall_ev (c : Call) (m : Nat) (h : 2 * c.path.length + 2 * c.dest.length + m ≤ 4611686018427387904) :
    Ev (fun k => laws_markCall.f k c.kind c.path c.dest c.num c.data (m : Int)) (((m + c.path.length + c.dest.length : Nat) : Int), marks m c.path.length, marks (m + c.path.length) c.dest.length) := by
  unfold laws_markCall.f
  refine Ev.bind (markStringS_ev c.path m (by omega)) ?_
  refine Ev.bind (markStringS_ev c.dest (m + c.path.length) (by omega)) ?_
  exact Ev.now _
theorem heldCall_ev (c : Call) (a b m : Nat) (h : 2 * a + 2 * b + m ≤ 4611686018427387904) :
    Ev (fun k => laws_heldCall.f k c.kind (marks m a) (marks (m + a) b) c.num c.data (m : Int)) ((m + a + b : Nat) : Int) := by
  unfold laws_heldCall.f
  refine Ev.bind (heldStringS_ev a m (by omega)) ?_
  simp only [show ¬ (((m + a : Nat) : Int) < 0) by omega, if_false]
  refine Ev.bind (heldStringS_ev b (m + a) (by omega)) ?_
  simp only [show ¬ (((m + a + b : Nat) : Int) < 0) by omega, if_false]
  exact Ev.now _
end Go.Proofs.YtojlffnlenldiaaDoor.F
