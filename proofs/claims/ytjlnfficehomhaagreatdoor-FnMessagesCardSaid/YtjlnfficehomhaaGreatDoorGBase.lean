/- (nothing of the small functions is reached here) -/
import Derived.Test.YtjlnfficehomhaaGreatDoorGFacts
