/- The cube roots of primes, as the reference works them out (2 of 4). -/
import Derived.Test.YthpigmkdchnnoaaRefC
namespace Go.Proofs.Ythpigmkdchnnoaa
theorem cube_59 : rootV 59 true = 3835390401 := by decide +kernel
theorem cube_61 : rootV 61 true = 4022224774 := by decide +kernel
theorem cube_67 : rootV 67 true = 264347078 := by decide +kernel
theorem cube_71 : rootV 71 true = 604807628 := by decide +kernel
theorem cube_73 : rootV 73 true = 770255983 := by decide +kernel
theorem cube_79 : rootV 79 true = 1249150122 := by decide +kernel
theorem cube_83 : rootV 83 true = 1555081692 := by decide +kernel
theorem cube_89 : rootV 89 true = 1996064986 := by decide +kernel
theorem cube_97 : rootV 97 true = 2554220882 := by decide +kernel
theorem cube_101 : rootV 101 true = 2821834349 := by decide +kernel
theorem cube_103 : rootV 103 true = 2952996808 := by decide +kernel
theorem cube_107 : rootV 107 true = 3210313671 := by decide +kernel
theorem cube_109 : rootV 109 true = 3336571891 := by decide +kernel
theorem cube_113 : rootV 113 true = 3584528711 := by decide +kernel
theorem cube_127 : rootV 127 true = 113926993 := by decide +kernel
theorem cube_131 : rootV 131 true = 338241895 := by decide +kernel
end Go.Proofs.Ythpigmkdchnnoaa
