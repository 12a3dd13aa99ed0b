-- Written by xprint.py, a program of this session, over the kit's print; not trusted: Lean checks it.
import Derived.Test.YtjclpkddfpbdcaaDoorXC0
import Derived.Test.YtjclpkddfpbdcaaDoorXC1
import Derived.Test.YtjclpkddfpbdcaaDoorXC2
import Derived.Test.YtjclpkddfpbdcaaDoorXC3
import Derived.Test.YtjclpkddfpbdcaaDoorXC4
import Derived.Test.YtjclpkddfpbdcaaDoorXC5
import Derived.Test.YtjclpkddfpbdcaaDoorXC6
namespace Go.Proofs.YtjclpkddfpbdcaaDoor.XC
open Go.RowKit Go.Proofs.YtjclpkddfpbdcaaDoorW.PrintWords Go.Proofs.YtjclpkddfpbdcaaDoorW.PrintLast Go.Proofs.YtjclpkddfpbdcaaDoorW.PrintMore
attribute [local go_sem] max2_int min2_int max_two min_two max_three min_three max_four min_four   -- for this text's walks alone
set_option linter.unusedVariables false
set_option linter.unusedSimpArgs false

end Go.Proofs.YtjclpkddfpbdcaaDoor.XC
