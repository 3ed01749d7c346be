/- What the texts of this claim build on. -/
import Derived.Test.YtkjcjlcimgcfcaaProg
import Derived.Test.YtkjcjlcimgcfcaaCore
import Derived.KernelRfl
