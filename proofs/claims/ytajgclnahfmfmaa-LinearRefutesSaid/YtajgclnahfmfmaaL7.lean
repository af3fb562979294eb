/- The laws of layer 25, together with what is handed over to them. -/
import Derived.Test.YtajgclnahfmfmaaL6
import Derived.Test.YtajgclnahfmfmaaRT
