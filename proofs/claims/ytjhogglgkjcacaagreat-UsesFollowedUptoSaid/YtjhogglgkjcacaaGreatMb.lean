/- Printed code of functions; checked by the kernel. -/
import Derived.Test.YtjhogglgkjcacaaGreatMb0
import Derived.Test.YtjhogglgkjcacaaGreatMb1
import Derived.Test.YtjhogglgkjcacaaGreatMb2
import Derived.Test.YtjhogglgkjcacaaGreatMb3
import Derived.Test.YtjhogglgkjcacaaGreatMb4
import Derived.Test.YtjhogglgkjcacaaGreatMb5
import Derived.Test.YtjhogglgkjcacaaGreatMb6
import Derived.Test.YtjhogglgkjcacaaGreatMb7
import Derived.Test.YtjhogglgkjcacaaGreatMb8
set_option linter.all false
