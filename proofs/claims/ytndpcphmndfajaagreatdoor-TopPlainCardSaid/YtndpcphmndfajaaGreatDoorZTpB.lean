/- The row's cells that hang on what the call can reach. | The row's cells that hang on the program's text alone. -/
import Derived.Test.YtndpcphmndfajaaGreatDoorZTpA
import Derived.Test.YtndpcphmndfajaaGreatDoorCards
import GoSem.ClaimGoes

namespace Go.Proofs.YtndpcphmndfajaaGreatDoor.topPlain
open Go.RowKit

theorem inp : (Rows.topPlainRow.inPlace == Tryz.prog.inPlace 3) = true := by
  unfold Program.inPlace
  rw [clo]
  kernel_rfl
theorem unfol : Tryz.prog.unfollowed 3 = true := by
  unfold Program.unfollowed
  rw [clo]
  kernel_rfl
theorem unf : (Rows.topPlainRow.unfollowed == Tryz.prog.unfollowed 3) = true := by
  rw [unfol]
  kernel_rfl
theorem recu : (Rows.topPlainRow.recurses == Tryz.prog.recurses 3) = true := by
  unfold Program.recurses
  rw [unfol, Bool.true_or]
  kernel_rfl
theorem vars : (Rows.topPlainRow.named == Tryz.prog.varsNamed 3) = true := by
  unfold Program.varsNamed
  rw [clo]
  kernel_rfl
end Go.Proofs.YtndpcphmndfajaaGreatDoor.topPlain

namespace Go.Proofs.YtndpcphmndfajaaGreatDoor.topPlain
open Go.RowKit

theorem laidOut : laidOutB Tryz.prog = true := by kernel_rfl
theorem rowed : mapsRowed Tryz.prog = true := by kernel_rfl
theorem heard : Tryz.prog.stopsHeard = true := by kernel_rfl
theorem named : Tryz.prog.funcNamed "diacritic/diacritictop.TopPlain" = some 3 := by kernel_rfl
theorem looks : false = Tryz.prog.looks [] := by kernel_rfl
theorem goes1 : (cloL.any fun g => (Tryz.prog.funcs[g]?).any Func.goes) = false := by kernel_rfl
theorem goes2 : Tryz.prog.funcs.any Func.goes = false := by kernel_rfl
theorem goes : false = Rows.topPlainRow.goesBy Tryz.prog := by
  have h1 : Tryz.prog.goes 3 = false := by
    unfold Program.goes
    rw [clo, goes1, goes2, Bool.and_false, Bool.or_false]
  show false = (Tryz.prog.goesFrom "diacritic/diacritictop.TopPlain" || false)
  unfold Program.goesFrom
  rw [named, Option.any_some, h1]
  rfl
end Go.Proofs.YtndpcphmndfajaaGreatDoor.topPlain
