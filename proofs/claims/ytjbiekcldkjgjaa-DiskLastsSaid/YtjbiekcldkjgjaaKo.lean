/- DiskLasts, with what comes in. -/
import Derived.Test.YtjbiekcldkjgjaaKn
import Derived.Test.YtjbiekcldkjgjaaKm
