/- Stands for a text of this seat's own. -/
import Derived.Test.YthnlgcnbpngnpaaWalkPackAll
