/- What all texts of this seat know. -/
import Derived.Test.YtmalhikcdideoaaDoorFacts
