/- The shelf has nothing for this program here. -/
import Derived.Test.YtdbiidbnhmnebaaDoorProg
