/- The 64 cube roots are the numbers of the rounds. -/
import Derived.Test.YthpigmkdchnnoaaRefD
import Derived.Test.YthpigmkdchnnoaaRefE0
import Derived.Test.YthpigmkdchnnoaaRefE1
import Derived.Test.YthpigmkdchnnoaaRefE2
import Derived.Test.YthpigmkdchnnoaaRefE3
namespace Go.Proofs.Ythpigmkdchnnoaa
theorem primes_310 : primesTo 310 = [2, 3, 5, 7, 11, 13, 17, 19, 23, 29, 31, 37, 41, 43, 47, 53, 59, 61, 67, 71, 73, 79, 83, 89, 97, 101, 103, 107, 109, 113, 127, 131, 137, 139, 149, 151, 157, 163, 167, 173, 179, 181, 191, 193, 197, 199, 211, 223, 227, 229, 233, 239, 241, 251, 257, 263, 269, 271, 277, 281, 283, 293, 307, 311] := by decide +kernel
theorem out_64 : outAt true 310 = kL.map Int.ofNat := by
  rw [outAt_map, primes_310]
  simp only [List.map_cons, List.map_nil, cube_2, cube_3, cube_5, cube_7, cube_11, cube_13, cube_17, cube_19, cube_23, cube_29, cube_31, cube_37, cube_41, cube_43, cube_47, cube_53, cube_59, cube_61, cube_67, cube_71, cube_73, cube_79, cube_83, cube_89, cube_97, cube_101, cube_103, cube_107, cube_109, cube_113, cube_127, cube_131, cube_137, cube_139, cube_149, cube_151, cube_157, cube_163, cube_167, cube_173, cube_179, cube_181, cube_191, cube_193, cube_197, cube_199, cube_211, cube_223, cube_227, cube_229, cube_233, cube_239, cube_241, cube_251, cube_257, cube_263, cube_269, cube_271, cube_277, cube_281, cube_283, cube_293, cube_307, cube_311]
  rfl
end Go.Proofs.Ythpigmkdchnnoaa
