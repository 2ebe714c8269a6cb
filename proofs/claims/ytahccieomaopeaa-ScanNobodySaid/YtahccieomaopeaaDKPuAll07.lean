/- The laws of chapter 07, and ScanNobody. -/
import Derived.Test.YtahccieomaopeaaDKPuKeeps
import Derived.Test.YtahccieomaopeaaDKPuSteps
import Derived.Test.YtahccieomaopeaaDKPuNobody
import Derived.Test.YtahccieomaopeaaDKPuScanN
