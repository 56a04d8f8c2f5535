/- The cube roots of primes, as the reference works them out (3 of 4). -/
import Derived.Test.YthpigmkdchnnoaaRefC
namespace Go.Proofs.Ythpigmkdchnnoaa
theorem cube_137 : rootV 137 true = 666307205 := by decide +kernel
theorem cube_139 : rootV 139 true = 773529912 := by decide +kernel
theorem cube_149 : rootV 149 true = 1294757372 := by decide +kernel
theorem cube_151 : rootV 151 true = 1396182291 := by decide +kernel
theorem cube_157 : rootV 157 true = 1695183700 := by decide +kernel
theorem cube_163 : rootV 163 true = 1986661051 := by decide +kernel
theorem cube_167 : rootV 167 true = 2177026350 := by decide +kernel
theorem cube_173 : rootV 173 true = 2456956037 := by decide +kernel
theorem cube_179 : rootV 179 true = 2730485921 := by decide +kernel
theorem cube_181 : rootV 181 true = 2820302411 := by decide +kernel
theorem cube_191 : rootV 191 true = 3259730800 := by decide +kernel
theorem cube_193 : rootV 193 true = 3345764771 := by decide +kernel
theorem cube_197 : rootV 197 true = 3516065817 := by decide +kernel
theorem cube_199 : rootV 199 true = 3600352804 := by decide +kernel
theorem cube_211 : rootV 211 true = 4094571909 := by decide +kernel
theorem cube_223 : rootV 223 true = 275423344 := by decide +kernel
end Go.Proofs.Ythpigmkdchnnoaa
