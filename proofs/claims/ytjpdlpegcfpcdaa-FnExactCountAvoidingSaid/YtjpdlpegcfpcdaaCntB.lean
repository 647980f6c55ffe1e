/- The counts, reckoned by the kernel. -/
import Derived.Test.YtjpdlpegcfpcdaaCntPlain
namespace Go.Proofs.Ytjpdlpegcfpcdaa
open Go.RowKit

theorem check_13 : checkN 13 = true := by decide +kernel
theorem check_14 : checkN 14 = true := by decide +kernel
end Go.Proofs.Ytjpdlpegcfpcdaa
