/-
  The contracts of this seat beside the checker with intervals.
-/
import Derived.Test.YtdgenclminhcdaaTops
import Derived.Test.YtdgenclminhcdaaSxZj
