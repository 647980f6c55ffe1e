/- The counts, reckoned by the kernel. -/
import Derived.Test.YtjpdlpegcfpcdaaCntPlain
namespace Go.Proofs.Ytjpdlpegcfpcdaa
open Go.RowKit

theorem check_2 : checkN 2 = true := by decide +kernel
theorem check_3 : checkN 3 = true := by decide +kernel
theorem check_4 : checkN 4 = true := by decide +kernel
theorem check_5 : checkN 5 = true := by decide +kernel
theorem check_6 : checkN 6 = true := by decide +kernel
theorem check_7 : checkN 7 = true := by decide +kernel
theorem check_8 : checkN 8 = true := by decide +kernel
theorem check_9 : checkN 9 = true := by decide +kernel
theorem check_10 : checkN 10 = true := by decide +kernel
theorem check_11 : checkN 11 = true := by decide +kernel
theorem check_12 : checkN 12 = true := by decide +kernel
end Go.Proofs.Ytjpdlpegcfpcdaa
