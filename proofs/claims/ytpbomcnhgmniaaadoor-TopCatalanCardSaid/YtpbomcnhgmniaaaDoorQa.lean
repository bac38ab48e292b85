/- The six texts are parsed. -/
import Derived.Test.YtpbomcnhgmniaaaDoorTa
section
set_option maxRecDepth 100000
namespace Go.Proofs.Cat
open Go Go.A Go.E
theorem hP : HSound Tryd.prog (evF tab (extIB 66 extN) 200) := evF_sound hmo tabOK (e66 extN_sound) 200
theorem parse0 : PureCall Tryd.prog 5 [(.v (.str 4 1702195828))] [(.sl none 5 1 [y 1, n 0, n 0, n 0, n 0]), n 0, n 0] :=
  evPI_spec hmo gI idle8 room8 hP (by kernel_rfl)
theorem parse1 : PureCall Tryd.prog 5 [(.v (.str 35 312350684678248706177154978095289786619087042520664025394947642306793626471509225000))] [(.sl none 5 4 [y 8, n 1, n 2, n 0, n 0, y 14, n 2, n 0, n 0, n 0, y 14, n 1, n 0, n 1, n 0, y 9, n 0, n 0, n 2, n 0]), n 0, n 0] :=
  evPI_spec hmo gI idle8 room8 hP (by kernel_rfl)
theorem parse2 : PureCall Tryd.prog 5 [(.v (.str 119 6120678224071704316160116587113236768706267976451929203024538919835649343686355521128828987381810785511314466356529116366349685927363362030374787075340263666163318542320694537656853525185636784927225936631984579787243449923656321033850107728280192654650498604916924345395274637688005928))] [(.sl none 5 14 [y 7, n 1, n 2, n 0, n 0, y 14, n 2, n 0, n 0, n 0, y 8, n 1, n 2, n 0, n 0, y 14, n 2, n 0, n 2, n 0, y 10, n 0, n 0, n 1, n 3, y 7, n 1, n 2, n 0, n 0, y 14, n 2, n 0, n 5, n 0, y 9, n 0, n 0, n 6, n 0, y 8, n 1, n 2, n 0, n 0, y 14, n 2, n 0, n 8, n 0, y 9, n 0, n 0, n 9, n 0, y 10, n 0, n 0, n 7, n 10, y 11, n 0, n 0, n 4, n 11, y 15, n 1, n 0, n 12, n 0]), n 0, n 0] :=
  evPI_spec hmo gI idle8 room8 hP (by kernel_rfl)
theorem parse3 : PureCall Tryd.prog 5 [(.v (.str 66 141280227923082781546588033891870192840264487918172556055891363667485598713731648800569149501371772761676653416608255701092966622033441121128244141844139697448))] [(.sl none 5 8 [y 7, n 1, n 2, n 0, n 0, y 14, n 2, n 0, n 0, n 0, y 9, n 0, n 0, n 1, n 0, y 8, n 1, n 2, n 0, n 0, y 14, n 2, n 0, n 3, n 0, y 9, n 0, n 0, n 4, n 0, y 11, n 0, n 0, n 2, n 5, y 15, n 1, n 0, n 6, n 0]), n 0, n 0] :=
  evPI_spec hmo gI idle8 room8 hP (by kernel_rfl)
theorem parse4 : PureCall Tryd.prog 5 [(.v (.str 156 779252608875070787508180043984932753276891074193588088396831021382801844346240156473140830103288739144744570065263361613303136991894892817697980336451804430710089955374540368838371400147934133732479193703197938526772123043908660114228320608731369429130302386460384518904070374466170922446674251798864464767674998493193415326395881467210654236214624292970283802407806938735912))] [(.sl none 5 19 [y 2, n 1, n 0, n 0, n 0, y 7, n 1, n 2, n 0, n 0, y 14, n 2, n 0, n 1, n 0, y 9, n 0, n 0, n 2, n 0, y 8, n 1, n 2, n 0, n 0, y 14, n 2, n 0, n 4, n 0, y 9, n 0, n 0, n 5, n 0, y 10, n 0, n 0, n 3, n 6, y 10, n 0, n 0, n 0, n 7, y 2, n 1, n 0, n 0, n 0, y 9, n 0, n 0, n 9, n 0, y 7, n 1, n 2, n 0, n 0, y 14, n 2, n 0, n 11, n 0, y 8, n 1, n 2, n 0, n 0, y 14, n 2, n 0, n 13, n 0, y 11, n 0, n 0, n 12, n 14, y 10, n 0, n 0, n 10, n 15, y 11, n 0, n 0, n 8, n 16, y 15, n 1, n 0, n 17, n 0]), n 0, n 0] :=
  evPI_spec hmo gI idle8 room8 hP (by kernel_rfl)
theorem parse5 : PureCall Tryd.prog 5 [(.v (.str 88 13531957456532314346918654398273074523598492671440445328946697361009032866358384187868718217578502761766615676843042719696016770547588179116507911119005487868547513030336551992020566703830693785029340458603603240))] [(.sl none 5 11 [y 7, n 1, n 2, n 0, n 0, y 8, n 1, n 2, n 0, n 0, y 11, n 0, n 0, n 0, n 1, y 9, n 0, n 0, n 2, n 0, y 2, n 1, n 0, n 0, n 0, y 2, n 2, n 0, n 0, n 0, y 10, n 0, n 0, n 4, n 5, y 9, n 0, n 0, n 6, n 0, y 11, n 0, n 0, n 3, n 7, y 15, n 2, n 0, n 8, n 0, y 15, n 1, n 0, n 9, n 0]), n 0, n 0] :=
  evPI_spec hmo gI idle8 room8 hP (by kernel_rfl)
end Go.Proofs.Cat
end
