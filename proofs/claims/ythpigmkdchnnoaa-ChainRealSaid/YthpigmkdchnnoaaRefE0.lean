/- The cube roots of primes, as the reference works them out (1 of 4). -/
import Derived.Test.YthpigmkdchnnoaaRefC
namespace Go.Proofs.Ythpigmkdchnnoaa
theorem cube_2 : rootV 2 true = 1116352408 := by decide +kernel
theorem cube_3 : rootV 3 true = 1899447441 := by decide +kernel
theorem cube_5 : rootV 5 true = 3049323471 := by decide +kernel
theorem cube_7 : rootV 7 true = 3921009573 := by decide +kernel
theorem cube_11 : rootV 11 true = 961987163 := by decide +kernel
theorem cube_13 : rootV 13 true = 1508970993 := by decide +kernel
theorem cube_17 : rootV 17 true = 2453635748 := by decide +kernel
theorem cube_19 : rootV 19 true = 2870763221 := by decide +kernel
theorem cube_23 : rootV 23 true = 3624381080 := by decide +kernel
theorem cube_29 : rootV 29 true = 310598401 := by decide +kernel
theorem cube_31 : rootV 31 true = 607225278 := by decide +kernel
theorem cube_37 : rootV 37 true = 1426881987 := by decide +kernel
theorem cube_41 : rootV 41 true = 1925078388 := by decide +kernel
theorem cube_43 : rootV 43 true = 2162078206 := by decide +kernel
theorem cube_47 : rootV 47 true = 2614888103 := by decide +kernel
theorem cube_53 : rootV 53 true = 3248222580 := by decide +kernel
end Go.Proofs.Ythpigmkdchnnoaa
