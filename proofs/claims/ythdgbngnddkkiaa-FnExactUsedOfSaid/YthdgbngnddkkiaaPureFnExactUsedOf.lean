/- What UsedOf says. -/
import Derived.Test.YthdgbngnddkkiaaPureH1
