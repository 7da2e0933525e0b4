/- More functions, as printed. -/
import Derived.Test.YtljofbhokcdklaaHVa
set_option linter.unusedVariables false
open Go VM
