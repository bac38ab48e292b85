/- Known calls. -/
import Derived.Test.YtpbomcnhgmniaaaDoorQc
import Derived.Test.YtpbomcnhgmniaaaDoorQd
import Derived.Test.YtpbomcnhgmniaaaDoorQe
import Derived.Test.YtpbomcnhgmniaaaDoorQg
import Derived.Test.YtpbomcnhgmniaaaDoorQh
import Derived.Test.YtpbomcnhgmniaaaDoorQm
import Derived.Test.YtpbomcnhgmniaaaDoorQn
import Derived.Test.YtpbomcnhgmniaaaDoorQo
section
set_option maxRecDepth 100000
namespace Go.Proofs.Cat
open Go Go.A Go.E
def L2 : List PE := [e2_0, e2_1, e2_2, e2_3, e2_4, e2_5, e2_6, e2_7, e2_8, e2_9, e2_10, e2_11, e2_12, e2_13, e2_14, e2_15, e2_16, e2_17, e2_18, e2_19, e2_20, e2_21, e2_22, e2_23, e2_24, e2_25, e2_26, e2_27, e2_28, e2_29, e2_30, e2_31, e2_32, e2_33, e2_34, e2_35, e2_36, e2_37, e2_38, e2_39, e2_40, e2_41, e2_42, e2_43, e2_44, e2_45, e2_46, e2_47, e2_48, e2_49]
theorem L2ok : AllPE Tryd.prog L2 := ⟨c2_0, c2_1, c2_2, c2_3, c2_4, c2_5, c2_6, c2_7, c2_8, c2_9, c2_10, c2_11, c2_12, c2_13, c2_14, c2_15, c2_16, c2_17, c2_18, c2_19, c2_20, c2_21, c2_22, c2_23, c2_24, c2_25, c2_26, c2_27, c2_28, c2_29, c2_30, c2_31, c2_32, c2_33, c2_34, c2_35, c2_36, c2_37, c2_38, c2_39, c2_40, c2_41, c2_42, c2_43, c2_44, c2_45, c2_46, c2_47, c2_48, c2_49, trivial⟩
noncomputable def x2 : HC := extT L2 x1
theorem x2s : HSound Tryd.prog x2 := extT_sound x1s L2ok.mem
theorem h3 : HSound Tryd.prog (evF tab x2 200) := evF_sound hmo tabOK x2s 200
end Go.Proofs.Cat
end
