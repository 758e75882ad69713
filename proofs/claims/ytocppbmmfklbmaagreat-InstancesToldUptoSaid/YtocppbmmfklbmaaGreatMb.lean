/- Printed code of functions; checked by the kernel. -/
import Derived.Test.YtocppbmmfklbmaaGreatMb0
import Derived.Test.YtocppbmmfklbmaaGreatMb1
import Derived.Test.YtocppbmmfklbmaaGreatMb2
import Derived.Test.YtocppbmmfklbmaaGreatMb3
import Derived.Test.YtocppbmmfklbmaaGreatMb4
import Derived.Test.YtocppbmmfklbmaaGreatMb5
import Derived.Test.YtocppbmmfklbmaaGreatMb6
set_option linter.all false

