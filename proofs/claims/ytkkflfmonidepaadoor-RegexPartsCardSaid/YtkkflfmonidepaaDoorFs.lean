/-
  ALL PRINTED FUNCTIONS, under one name.
-/
import Derived.Test.YtkkflfmonidepaaDoorF5
