/- More functions, as printed. -/
import Derived.Test.YtkdkpfnglogpdaaHVa
set_option linter.unusedVariables false
open Go VM
