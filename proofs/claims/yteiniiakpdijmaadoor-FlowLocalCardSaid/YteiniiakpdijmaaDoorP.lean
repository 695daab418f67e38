/- The printed functions. -/
import Derived.Test.YteiniiakpdijmaaDoorPb
