/- A run of the law RingCancels, whatever its input, comes to true. -/
import Derived.Test.YtjkibboeagjgnaaGreatEvRingCancels1
import Derived.Test.YtjkibboeagjgnaaGreatEvRingCancels2
import Derived.Test.YtjkibboeagjgnaaGreatEvRingCancels3
import Derived.Test.YtjkibboeagjgnaaGreatEvRingCancels4
namespace Go.Proofs.YtjkibboeagjgnaaGreat.ringCancels
open Go.Ev

set_option maxRecDepth 100000 in
theorem all : ∀ (user target flags aux by_ : Int), InRange user target flags aux by_ → Goal user target flags aux by_ := by
  intro user target flags aux by_ rg
  obtain ⟨r0, s0, r1, s1, r2, s2, r3, s3, r4, s4⟩ := id rg
  have g0 : (flags % 3) = 0 ∨ (flags % 3) = 1 ∨ (flags % 3) = 2 := by
    omega
  rcases g0 with f0 | f0 | f0
  · rcases Bool.eq_false_or_eq_true (!(ieq user by_)) with f1 | f1
    · rcases Bool.eq_false_or_eq_true (ieq by_ 77) with f2 | f2
      · exact path0 user target flags aux by_ rg f0 f1 f2
      · exact path1 user target flags aux by_ rg f0 f1 f2
    · exact path2 user target flags aux by_ rg f0 f1
  · rcases Bool.eq_false_or_eq_true (!(ieq user by_)) with f1 | f1
    · rcases Bool.eq_false_or_eq_true (!(ieq target by_)) with f2 | f2
      · rcases Bool.eq_false_or_eq_true (ieq by_ 77) with f3 | f3
        · exact path3 user target flags aux by_ rg f0 f1 f2 f3
        · exact path4 user target flags aux by_ rg f0 f1 f2 f3
      · exact path5 user target flags aux by_ rg f0 f1 f2
    · rcases Bool.eq_false_or_eq_true (ieq user target) with f2 | f2
      · exact path6 user target flags aux by_ rg f0 f1 f2
      · exact path7 user target flags aux by_ rg f0 f1 f2
  · rcases Bool.eq_false_or_eq_true (!(ieq user by_)) with f1 | f1
    · rcases Bool.eq_false_or_eq_true (!(ieq target by_)) with f2 | f2
      · rcases Bool.eq_false_or_eq_true (ieq by_ 77) with f3 | f3
        · exact path8 user target flags aux by_ rg f0 f1 f2 f3
        · exact path9 user target flags aux by_ rg f0 f1 f2 f3
      · exact path10 user target flags aux by_ rg f0 f1 f2
    · rcases Bool.eq_false_or_eq_true (ieq user target) with f2 | f2
      · rcases Bool.eq_false_or_eq_true (ieq 77 target) with f3 | f3
        · exact path11 user target flags aux by_ rg f0 f1 f2 f3
        · exact path12 user target flags aux by_ rg f0 f1 f2 f3
      · rcases Bool.eq_false_or_eq_true (ieq 77 target) with f3 | f3
        · exact path13 user target flags aux by_ rg f0 f1 f2 f3
        · exact path14 user target flags aux by_ rg f0 f1 f2 f3

end Go.Proofs.YtjkibboeagjgnaaGreat.ringCancels
