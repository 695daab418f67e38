/- The plain law EconomyRestores and what it needs: what both programs answer is told and compared, with no program in sight. -/
import Derived.Test.YtoiimiohobollaaGreatRQ1
namespace Go.Proofs.YtoiimiohobollaaGreat.AI
open Go.RowKit
set_option linter.unusedVariables false
set_option linter.unusedSimpArgs false
set_option maxRecDepth 20000
section
variable (T0 T1 T2 : Int) (T3 : Bool) (T4 : Int) (us ws ts : LL) (T5 T6 : Int) (Tc ps es Ts Tm Tq : LL)
end
section
variable (T0 T1 T2 : Int) (T3 : Bool) (T4 : Int) (us ws ts : LL) (T5 T6 : Int) (Tc ps es Ts Tm Tq : LL)
end
end Go.Proofs.YtoiimiohobollaaGreat.AI
