/- The cube roots of primes, as the reference works them out (4 of 4). -/
import Derived.Test.YthpigmkdchnnoaaRefC
namespace Go.Proofs.Ythpigmkdchnnoaa
theorem cube_227 : rootV 227 true = 430227734 := by decide +kernel
theorem cube_229 : rootV 229 true = 506948616 := by decide +kernel
theorem cube_233 : rootV 233 true = 659060556 := by decide +kernel
theorem cube_239 : rootV 239 true = 883997877 := by decide +kernel
theorem cube_241 : rootV 241 true = 958139571 := by decide +kernel
theorem cube_251 : rootV 251 true = 1322822218 := by decide +kernel
theorem cube_257 : rootV 257 true = 1537002063 := by decide +kernel
theorem cube_263 : rootV 263 true = 1747873779 := by decide +kernel
theorem cube_269 : rootV 269 true = 1955562222 := by decide +kernel
theorem cube_271 : rootV 271 true = 2024104815 := by decide +kernel
theorem cube_277 : rootV 277 true = 2227730452 := by decide +kernel
theorem cube_281 : rootV 281 true = 2361852424 := by decide +kernel
theorem cube_283 : rootV 283 true = 2428436474 := by decide +kernel
theorem cube_293 : rootV 293 true = 2756734187 := by decide +kernel
theorem cube_307 : rootV 307 true = 3204031479 := by decide +kernel
theorem cube_311 : rootV 311 true = 3329325298 := by decide +kernel
end Go.Proofs.Ythpigmkdchnnoaa
