/- What the reader wants of CPuts stands in FormP. -/
import Derived.Test.YtbcmjjcbjojakaaFormP
