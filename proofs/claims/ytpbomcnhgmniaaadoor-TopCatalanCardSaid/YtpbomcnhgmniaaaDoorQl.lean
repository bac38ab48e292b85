/- The function, by its calls. -/
import Derived.Test.YtpbomcnhgmniaaaDoorQa
import Derived.Test.YtpbomcnhgmniaaaDoorQi
import Derived.Test.YtpbomcnhgmniaaaDoorQj
import Derived.Test.YtpbomcnhgmniaaaDoorQk
import Derived.Test.YtpbomcnhgmniaaaDoorGf
section
set_option maxRecDepth 100000
namespace Go.Proofs.Cat
open Go Go.A Go.E
def L3 : List PE := [e3_6, e3_7, e3_8, e3_9, e3_10, e3_11, e3_12, e3_13, e3_14, e3_15, e3_16, e3_17, e3_18, e3_19, e3_20, e3_21, e3_22, e3_23, e3_24, e3_25, e3_26, e3_27, e3_28, e3_29, e3_30, e3_31, e3_32, e3_33, e3_34, e3_35, e3_36, e3_37, e3_38, e3_39, e3_40, e3_41, e3_42, e3_43, e3_44, e3_45, e3_46, e3_47, e3_48, e3_49, e3_50, e3_51, e3_52, e3_53, e3_54, e3_55, e3_56, e3_57, e3_58, e3_59, e3_60, e3_61, e3_62, e3_63, e3_64, e3_65, e3_66, e3_67, e3_68, e3_69, e3_70, e3_71, e3_72, e3_73, e3_74, e3_75, e3_76, e3_77, e3_78, e3_79, e3_80, e3_81, e3_82, e3_83, e3_84, e3_85, e3_86, e3_87, e3_88, e3_89, e3_90, e3_91, e3_92, e3_93, e3_94, e3_95]
theorem L3ok : AllPE Tryd.prog L3 := ⟨c3_6, c3_7, c3_8, c3_9, c3_10, c3_11, c3_12, c3_13, c3_14, c3_15, c3_16, c3_17, c3_18, c3_19, c3_20, c3_21, c3_22, c3_23, c3_24, c3_25, c3_26, c3_27, c3_28, c3_29, c3_30, c3_31, c3_32, c3_33, c3_34, c3_35, c3_36, c3_37, c3_38, c3_39, c3_40, c3_41, c3_42, c3_43, c3_44, c3_45, c3_46, c3_47, c3_48, c3_49, c3_50, c3_51, c3_52, c3_53, c3_54, c3_55, c3_56, c3_57, c3_58, c3_59, c3_60, c3_61, c3_62, c3_63, c3_64, c3_65, c3_66, c3_67, c3_68, c3_69, c3_70, c3_71, c3_72, c3_73, c3_74, c3_75, c3_76, c3_77, c3_78, c3_79, c3_80, c3_81, c3_82, c3_83, c3_84, c3_85, c3_86, c3_87, c3_88, c3_89, c3_90, c3_91, c3_92, c3_93, c3_94, c3_95, trivial⟩
noncomputable def x3 : HC := extT L3 (extR 6 F6 (evF tab x2 200) x2)
theorem x3s : HSound Tryd.prog x3 := extT_sound (extR_sound hmo g6 h3 x2s) L3ok.mem
def L4 : List PE := [⟨5, [(.v (.str 4 1702195828))], [(.sl none 5 1 [y 1, n 0, n 0, n 0, n 0]), n 0, n 0]⟩,
⟨5, [(.v (.str 35 312350684678248706177154978095289786619087042520664025394947642306793626471509225000))], [(.sl none 5 4 [y 8, n 1, n 2, n 0, n 0, y 14, n 2, n 0, n 0, n 0, y 14, n 1, n 0, n 1, n 0, y 9, n 0, n 0, n 2, n 0]), n 0, n 0]⟩,
⟨5, [(.v (.str 119 6120678224071704316160116587113236768706267976451929203024538919835649343686355521128828987381810785511314466356529116366349685927363362030374787075340263666163318542320694537656853525185636784927225936631984579787243449923656321033850107728280192654650498604916924345395274637688005928))], [(.sl none 5 14 [y 7, n 1, n 2, n 0, n 0, y 14, n 2, n 0, n 0, n 0, y 8, n 1, n 2, n 0, n 0, y 14, n 2, n 0, n 2, n 0, y 10, n 0, n 0, n 1, n 3, y 7, n 1, n 2, n 0, n 0, y 14, n 2, n 0, n 5, n 0, y 9, n 0, n 0, n 6, n 0, y 8, n 1, n 2, n 0, n 0, y 14, n 2, n 0, n 8, n 0, y 9, n 0, n 0, n 9, n 0, y 10, n 0, n 0, n 7, n 10, y 11, n 0, n 0, n 4, n 11, y 15, n 1, n 0, n 12, n 0]), n 0, n 0]⟩,
⟨5, [(.v (.str 66 141280227923082781546588033891870192840264487918172556055891363667485598713731648800569149501371772761676653416608255701092966622033441121128244141844139697448))], [(.sl none 5 8 [y 7, n 1, n 2, n 0, n 0, y 14, n 2, n 0, n 0, n 0, y 9, n 0, n 0, n 1, n 0, y 8, n 1, n 2, n 0, n 0, y 14, n 2, n 0, n 3, n 0, y 9, n 0, n 0, n 4, n 0, y 11, n 0, n 0, n 2, n 5, y 15, n 1, n 0, n 6, n 0]), n 0, n 0]⟩,
⟨5, [(.v (.str 156 779252608875070787508180043984932753276891074193588088396831021382801844346240156473140830103288739144744570065263361613303136991894892817697980336451804430710089955374540368838371400147934133732479193703197938526772123043908660114228320608731369429130302386460384518904070374466170922446674251798864464767674998493193415326395881467210654236214624292970283802407806938735912))], [(.sl none 5 19 [y 2, n 1, n 0, n 0, n 0, y 7, n 1, n 2, n 0, n 0, y 14, n 2, n 0, n 1, n 0, y 9, n 0, n 0, n 2, n 0, y 8, n 1, n 2, n 0, n 0, y 14, n 2, n 0, n 4, n 0, y 9, n 0, n 0, n 5, n 0, y 10, n 0, n 0, n 3, n 6, y 10, n 0, n 0, n 0, n 7, y 2, n 1, n 0, n 0, n 0, y 9, n 0, n 0, n 9, n 0, y 7, n 1, n 2, n 0, n 0, y 14, n 2, n 0, n 11, n 0, y 8, n 1, n 2, n 0, n 0, y 14, n 2, n 0, n 13, n 0, y 11, n 0, n 0, n 12, n 14, y 10, n 0, n 0, n 10, n 15, y 11, n 0, n 0, n 8, n 16, y 15, n 1, n 0, n 17, n 0]), n 0, n 0]⟩,
⟨5, [(.v (.str 88 13531957456532314346918654398273074523598492671440445328946697361009032866358384187868718217578502761766615676843042719696016770547588179116507911119005487868547513030336551992020566703830693785029340458603603240))], [(.sl none 5 11 [y 7, n 1, n 2, n 0, n 0, y 8, n 1, n 2, n 0, n 0, y 11, n 0, n 0, n 0, n 1, y 9, n 0, n 0, n 2, n 0, y 2, n 1, n 0, n 0, n 0, y 2, n 2, n 0, n 0, n 0, y 10, n 0, n 0, n 4, n 5, y 9, n 0, n 0, n 6, n 0, y 11, n 0, n 0, n 3, n 7, y 15, n 2, n 0, n 8, n 0, y 15, n 1, n 0, n 9, n 0]), n 0, n 0]⟩]
theorem L4ok : AllPE Tryd.prog L4 := ⟨parse0, parse1, parse2, parse3, parse4, parse5, trivial⟩
noncomputable def x4 : HC := extT L4 x3
theorem x4s : HSound Tryd.prog x4 := extT_sound x3s L4ok.mem
end Go.Proofs.Cat
end
section
set_option maxRecDepth 100000
namespace Go.Proofs.Cat
open Go Go.A Go.E
noncomputable section
def H4 : HC := evF tab x4 200
def T0 : EV := .tup []
def rest3 : EC := sq2 (sq2 F3.body)
def K3 : KM := fun v M => resOK [.v (.bool true)] v M
def cont (w : Nat) (v : EV) : Bool := ciF .i64 v fun k =>
  wbK [(.mk 1 .f3)] [(.l 0)] (.n T0 T0 T0 T0 T0 T0 T0 T0 (.n T0 T0 T0 T0 T0 T0 T0 T0 (.n T0 T0 T0 T0 T0 T0 T0 T0 (.n T0 (.bool false) T0 T0 T0 T0 T0 (.byt w) (.n T0 T0 T0 T0 T0 T0 T0 T0 .nil))))) [k, v] fun env =>
    evC rest3 H4 env ⟨.nil, 0⟩ (fun env M => retK F3.res env M K3) (fun i env M => Nat.rec (motive := fun _ => Bool) (retK F3.res env M K3) (fun _ _ => false) i)
end
theorem h4 : HSound Tryd.prog H4 := evF_sound hmo tabOK x4s 200
theorem hstep (w : Nat) : evP1 F3 H4 [.v (.byt w)] [.v (.bool true)] = ibF .rem (.byt w) (.byt 6) (cont w) := by kernel_rfl
theorem k0 (w : Nat) : cont w (.byt 0) = true := by kernel_rfl
theorem k1 (w : Nat) : cont w (.byt 1) = true := by kernel_rfl
theorem k2 (w : Nat) : cont w (.byt 2) = true := by kernel_rfl
theorem k3 (w : Nat) : cont w (.byt 3) = true := by kernel_rfl
theorem k4 (w : Nat) : cont w (.byt 4) = true := by kernel_rfl
theorem k5 (w : Nat) : cont w (.byt 5) = true := by kernel_rfl
theorem catalan (w : Nat) (hw : w < 256) : PureCall Tryd.prog 3 [.v (.byt w)] [.v (.bool true)] := by
  refine evP1_spec hmo g3 h4 ?_
  rw [hstep, ibRem6 w hw]
  have h : w % 6 = 0 ∨ w % 6 = 1 ∨ w % 6 = 2 ∨ w % 6 = 3 ∨ w % 6 = 4 ∨ w % 6 = 5 := by omega
  rcases h with h | h | h | h | h | h <;> rw [h]
  · exact k0 w
  · exact k1 w
  · exact k2 w
  · exact k3 w
  · exact k4 w
  · exact k5 w
end Go.Proofs.Cat
end
