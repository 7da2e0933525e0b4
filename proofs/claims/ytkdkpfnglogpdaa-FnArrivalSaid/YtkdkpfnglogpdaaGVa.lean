/- More functions, as printed. -/
import Derived.Test.YtkdkpfnglogpdaaFVa
set_option linter.unusedVariables false
open Go VM
