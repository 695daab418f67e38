/- The printed functions. -/
import Derived.Test.YtclfphmehilaeaaDoorPb
