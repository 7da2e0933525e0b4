/- More functions, as printed. -/
import Derived.Test.YtljofbhokcdklaaFVa
set_option linter.unusedVariables false
open Go VM
