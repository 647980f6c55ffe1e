/- The counts, reckoned by the kernel. -/
import Derived.Test.YtjpdlpegcfpcdaaCntPlain
namespace Go.Proofs.Ytjpdlpegcfpcdaa
open Go.RowKit

theorem check_16 : checkN 16 = true := by decide +kernel
end Go.Proofs.Ytjpdlpegcfpcdaa
