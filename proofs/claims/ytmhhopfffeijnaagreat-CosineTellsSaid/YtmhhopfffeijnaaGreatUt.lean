/- The document's answers on draws: what they stand on. -/
import Derived.Test.YtmhhopfffeijnaaGreatNh
