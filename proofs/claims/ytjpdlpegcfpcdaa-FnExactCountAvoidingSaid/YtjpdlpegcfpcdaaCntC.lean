/- The counts, reckoned by the kernel. -/
import Derived.Test.YtjpdlpegcfpcdaaCntPlain
namespace Go.Proofs.Ytjpdlpegcfpcdaa
open Go.RowKit

theorem check_15 : checkN 15 = true := by decide +kernel
end Go.Proofs.Ytjpdlpegcfpcdaa
