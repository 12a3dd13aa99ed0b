-- Written by xprint.py, a program of this session, over the kit's print; not trusted: Lean checks it.
import Derived.Test.YtjclpkddfpbdcaaDoorXA0
import Derived.Test.YtjclpkddfpbdcaaDoorXA1
import Derived.Test.YtjclpkddfpbdcaaDoorXA2
import Derived.Test.YtjclpkddfpbdcaaDoorXA3
import Derived.Test.YtjclpkddfpbdcaaDoorXA4
import Derived.Test.YtjclpkddfpbdcaaDoorXA5
import Derived.Test.YtjclpkddfpbdcaaDoorXA6
import Derived.Test.YtjclpkddfpbdcaaDoorXA7
namespace Go.Proofs.YtjclpkddfpbdcaaDoor.XA
open Go.RowKit Go.Proofs.YtjclpkddfpbdcaaDoorW.PrintWords Go.Proofs.YtjclpkddfpbdcaaDoorW.PrintLast Go.Proofs.YtjclpkddfpbdcaaDoorW.PrintMore
attribute [local go_sem] max2_int min2_int max_two min_two max_three min_three max_four min_four   -- for this text's walks alone
set_option linter.unusedVariables false
set_option linter.unusedSimpArgs false

end Go.Proofs.YtjclpkddfpbdcaaDoor.XA
