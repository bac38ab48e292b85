/- The functions of the program, compiled. -/
import Derived.Test.YtpbomcnhgmniaaaDoorGe
import Derived.Test.YtpbomcnhgmniaaaDoorProg
import Derived.KernelRfl
import Derived.Test.YtpbomcnhgmniaaaDoorGf
section
set_option maxRecDepth 100000
namespace Go.Proofs.Cat
open Go Go.A Go.E
noncomputable def F3 : EFn := { init := (.n none none none none none none none none (.n none none none none none none none none (.n none none none none none none none none (.n none none none none none none none (some 0) (.n none none none none none none none none .nil))))), nargs := 1, res := [(.s (.mk 3 .f1))], body := (.seq (.reg .nil [(.mk 3 .f1)] [(.c (.bool false))]) 
(.seq (.reg (.op (.ib .rem (.s 3 .f7) (.c (.byt 6))) (.op (.ci .i64 (.l 0)) .nil)) [(.mk 1 .f3)] [(.l 0)]) 
(.seq (.reg (.op (.call 4 [(.s 1 .f3)]) (.op (.ext (.l 0) 0) (.op (.ext (.l 1) 1) .nil))) [(.mk 2 .f7), (.mk 3 .f5)] [(.l 0), (.l 1)]) 
(.seq (.reg (.op (.call 5 [(.s 3 .f5)]) (.op (.ext (.l 0) 0) (.op (.ext (.l 1) 1) (.op (.ext (.l 2) 2) .nil)))) [(.mk 3 .f2), (.mk 3 .f6)] [(.l 2), (.l 0)]) 
(.seq (.seq (.reg (.op (.ib .neq (.s 3 .f6) (.c (.nat 0))) .nil) [(.mk 4 .f0)] [(.l 0)]) 
(.cond (.s 4 .f0) (.seq (.reg .nil [(.mk 3 .f1)] [(.c (.bool false))]) 
.ret) .skip)) 
(.seq (.reg (.op (.call 6 [(.s 3 .f2), (.c (.nat 3)), (.c (.nat 64))]) (.op (.ext (.l 0) 0) (.op (.ext (.l 1) 1) (.op (.zal [(.nat 0), (.nat 0), (.oth .nilSlc), (.oth .nilSlc)] 4) (.op (.store 4 (.l 0) (.l 2)) .nil))))) [(.mk 1 .f5), (.mk 3 .f3)] [(.l 1), (.l 2)]) 
(.seq (.seq (.reg (.op (.ib .neq (.s 3 .f3) (.c (.nat 0))) .nil) [(.mk 3 .f4)] [(.l 0)]) 
(.cond (.s 3 .f4) (.seq (.reg .nil [(.mk 3 .f1)] [(.c (.bool false))]) 
.ret) .skip)) 
(.seq (.reg (.op (.bsv 1 1 [(.c (.u64 1))]) (.op (.bsv 1 1 [(.c (.u64 0))]) (.op (.bsv 1 1 [(.c (.u64 1))]) .nil))) [(.mk 0 .f1), (.mk 0 .f3), (.mk 0 .f4)] [(.l 0), (.l 2), (.l 1)]) 
(.seq (.seq (.reg .nil [(.mk 0 .f5)] [(.c (.nat 1))]) 
(.block 0 (.loop (.seq (.seq (.reg (.op (.ib .leq (.s 0 .f5) (.c (.nat 14))) .nil) [(.mk 1 .f4)] [(.l 0)]) 
(.cond (.s 1 .f4) .skip (.exit 0))) 
(.seq (.block 1 (.seq (.reg .nil [(.mk 0 .f7), (.mk 1 .f0), (.mk 1 .f1)] [(.c (.u64 0)), (.c (.u64 0)), (.c (.u64 0))]) 
(.seq (.seq (.reg .nil [(.mk 0 .f0)] [(.c (.nat 0))]) 
(.block 2 (.loop (.seq (.seq (.reg (.op (.ib .lss (.s 0 .f0) (.s 0 .f5)) .nil) [(.mk 1 .f2)] [(.l 0)]) 
(.cond (.s 1 .f2) .skip (.exit 2))) 
(.seq (.block 3 (.seq (.reg (.op (.ib .sub (.s 0 .f5) (.c (.nat 1))) (.op (.ib .sub (.l 0) (.s 0 .f0)) .nil)) [(.mk 0 .f2)] [(.l 0)]) 
(.seq (.regD (.op none (.iad 1 (.s 0 .f3) (.s 0 .f0)) (.op none (.iad 1 (.s 0 .f3) (.s 0 .f2)) (.op none (.load (.l 1)) (.op none (.load (.l 1)) (.op none (.ib .mul (.l 1) (.l 0)) (.op none (.ib .add (.s 1 .f0) (.l 0)) (.nil .nil))))))) 0 [(.mk 1 .f0)] [(.l 0)]) 
(.seq (.regD (.op none (.iad 1 (.s 0 .f1) (.s 0 .f0)) (.op none (.iad 1 (.s 0 .f1) (.s 0 .f2)) (.op none (.load (.l 1)) (.op none (.load (.l 1)) (.op none (.ib .mul (.l 1) (.l 0)) (.op none (.ib .add (.s 0 .f7) (.l 0)) (.nil .nil))))))) 0 [(.mk 0 .f7)] [(.l 0)]) 
(.regD (.op none (.iad 1 (.s 0 .f4) (.s 0 .f0)) (.op none (.iad 1 (.s 0 .f1) (.s 0 .f0)) (.op none (.iad 1 (.s 0 .f4) (.s 0 .f2)) (.op none (.iad 1 (.s 0 .f1) (.s 0 .f2)) (.op none (.load (.l 3)) (.op none (.load (.l 3)) (.op none (.ib .add (.l 1) (.l 0)) (.op none (.load (.l 4)) (.op none (.load (.l 4)) (.op none (.ib .add (.l 1) (.l 0)) (.op none (.ib .mul (.l 3) (.l 0)) (.op none (.ib .add (.s 1 .f1) (.l 0)) (.nil .nil))))))))))))) 0 [(.mk 1 .f1)] [(.l 0)]))))) 
(.reg (.op (.ib .add (.s 0 .f0) (.c (.nat 1))) .nil) [(.mk 0 .f0)] [(.l 0)])))))) 
(.reg (.op (.bsv 1 1 [(.s 1 .f0)]) (.op (.app 1 8 (.s 0 .f3) (.l 0)) (.op (.bsv 1 1 [(.s 0 .f7)]) (.op (.app 1 8 (.s 0 .f4) (.l 0)) (.op (.bsv 1 1 [(.s 1 .f1)]) (.op (.app 1 8 (.s 0 .f1) (.l 0)) .nil)))))) [(.mk 0 .f1), (.mk 0 .f3), (.mk 0 .f4)] [(.l 0), (.l 4), (.l 2)])))) 
(.reg (.op (.ib .add (.s 0 .f5) (.c (.nat 1))) .nil) [(.mk 0 .f5)] [(.l 0)])))))) 
(.seq (.seq (.reg .nil [(.mk 0 .f6)] [(.c (.nat 0))]) 
(.block 4 (.loop (.seq (.seq (.reg (.op (.ib .leq (.s 0 .f6) (.c (.nat 14))) .nil) [(.mk 1 .f6)] [(.l 0)]) 
(.cond (.s 1 .f6) .skip (.exit 4))) 
(.seq (.block 5 (.seq (.reg (.op (.iad 1 (.s 0 .f3) (.s 0 .f6)) (.op (.load (.l 0)) .nil)) [(.mk 2 .f4)] [(.l 0)]) 
(.seq (.block 6 (.seq (.reg (.op (.ib .eql (.s 1 .f3) (.c (.nat 1))) (.gop (.l 0) false (.gp (.mv (.t 22))) (.gop (.l 1) false (.ib .lss (.l 0) (.c (.nat 4))) (.gop (.l 2) false (.gp (.mv (.t 1))) (.gop (.l 0) true (.gp (.mv (.t 12))) (.gop (.l 1) true (.ib .eql (.l 0) (.c (.nat 0))) (.gop (.l 5) false (.pick (.l 2) (.l 0) (.c (.bool false))) (.op (.pick (.l 6) (.c (.bool true)) (.l 0)) .nil)))))))) [(.mk 1 .f7)] [(.l 0)]) 
(.cond (.s 1 .f7) (.reg .nil [(.mk 2 .f4)] [(.c (.u64 1))]) (.seq (.reg (.op (.ib .eql (.s 1 .f3) (.c (.nat 2))) (.gop (.l 0) true (.gp (.mv (.t 12))) (.gop (.l 1) true (.ib .rem (.l 0) (.c (.nat 2))) (.gop (.l 2) true (.ib .eql (.l 0) (.c (.nat 0))) (.op (.pick (.l 3) (.l 0) (.c (.bool false))) .nil))))) [(.mk 2 .f0)] [(.l 0)]) 
(.cond (.s 2 .f0) (.reg .nil [(.mk 2 .f4)] [(.c (.u64 0))]) (.seq (.reg (.op (.ib .eql (.s 1 .f3) (.c (.nat 2))) .nil) [(.mk 2 .f1)] [(.l 0)]) 
(.cond (.s 2 .f1) (.reg (.op (.ib .quo (.s 0 .f6) (.c (.nat 2))) (.op (.iad 1 (.s 0 .f3) (.l 0)) (.op (.load (.l 0)) .nil))) [(.mk 2 .f4)] [(.l 0)]) (.seq (.reg (.op (.ib .eql (.s 1 .f3) (.c (.nat 3))) .nil) [(.mk 2 .f2)] [(.l 0)]) 
(.cond (.s 2 .f2) (.reg (.op (.ib .sub (.s 0 .f6) (.c (.nat 1))) (.op (.ib .shl (.c (.u64 1)) (.l 0)) .nil)) [(.mk 2 .f4)] [(.l 0)]) (.seq (.reg (.op (.ib .eql (.s 1 .f3) (.c (.nat 5))) .nil) [(.mk 2 .f3)] [(.l 0)]) 
(.cond (.s 2 .f3) (.regD (.op none (.iad 1 (.s 0 .f4) (.s 0 .f6)) (.op none (.iad 1 (.s 0 .f1) (.s 0 .f6)) (.op none (.load (.l 1)) (.op none (.load (.l 1)) (.op none (.ib .add (.l 1) (.l 0)) (.nil .nil)))))) 0 [(.mk 2 .f4)] [(.l 0)]) .skip))))))))))) 
(.seq (.reg (.op (.loadn 4 (.s 1 .f5)) (.op (.call 7 [(.l 0), (.s 0 .f6)]) (.op (.ext (.l 0) 0) (.op (.ext (.l 1) 1) .nil)))) [(.mk 2 .f5), (.mk 2 .f6)] [(.l 0), (.l 1)]) 
(.seq (.reg (.op (.ib .neq (.s 2 .f5) (.c (.nat 0))) (.gop (.l 0) false (.gp (.mv (.t 44))) (.gop (.l 1) false (.gp (.mv (.t 40))) (.gop (.l 2) false (.gp (.mv (.t 46))) (.gop (.l 3) false (.gp (.mv (.t 12))) (.gop (.l 4) false (.ib .mul (.l 1) (.l 0)) (.gop (.l 5) false (.ib .shl (.l 3) (.l 0)) (.gop (.l 6) false (.ib .neq (.l 5) (.l 0)) (.op (.pick (.l 7) (.c (.bool true)) (.l 0)) .nil))))))))) [(.mk 3 .f0)] [(.l 0)]) 
(.cond (.s 3 .f0) (.seq (.reg .nil [(.mk 3 .f1)] [(.c (.bool false))]) 
.ret) .skip)))))) 
(.reg (.op (.ib .add (.s 0 .f6) (.c (.nat 1))) .nil) [(.mk 0 .f6)] [(.l 0)])))))) 
(.seq (.reg .nil [(.mk 3 .f1)] [(.c (.bool true))]) 
.ret))))))))))) }
theorem g3 : Good Tryd.prog 3 F3 := ⟨1, [(18, [(0, false), (1, false), (2, false), (3, false), (5, false), (6, false), (7, false), (4, false), (8, false), (9, false), (10, false), (11, false)]), (19, [(0, false), (1, false), (2, false), (3, false), (5, false), (6, false), (7, false), (4, false), (8, false), (9, false), (10, false), (11, false)]), (20, [(0, false), (1, false), (2, false), (3, false), (5, false), (6, false), (7, false), (10, false), (11, false), (12, false), (14, false), (15, false), (16, false), (4, false), (8, false), (9, false), (13, false), (17, false), (18, false), (19, false), (20, false), (21, false)]), (35, [(0, false), (1, false), (2, false), (4, false), (5, false), (6, false), (3, false), (7, false), (8, false), (9, false)])], [18, 13, 19, 11, 12, 14, 20, 16, 15, 17, 56, 3, 51, 9, 119, 126, 137, 145, 153, 159, 21, 23, 22, 5, 187, 2, 6, 10, 46, 4, 8, 0, 39], by kernel_rfl⟩
noncomputable def F4 : EFn := { init := (.n none none (some 0) none none none none none .nil), nargs := 1, res := [(.s (.mk 0 .f4)), (.s (.mk 0 .f3))], body := (.seq (.reg .nil [(.mk 0 .f3), (.mk 0 .f4)] [(.c (.nat 0)), (.c (.str 0 0))]) 
(.seq (.reg .nil [(.mk 0 .f0), (.mk 0 .f1)] [(.c (.str 20 234988799657007907701442937553806047846805238568)), (.c (.str 19 917924998660187138837386405011375318493000488))]) 
(.seq (.regD (.op none (.gp (.sbin .add (.c (.str [40, 110, 111, 116, 32, 40, 115, 111, 109, 101, 32, 66, 32])) (.t 0))) (.op none (.gp (.sbin .add (.t 1) (.c (.str [41, 41])))) (.op none (.gp (.sbin .add (.c (.str [40, 101, 97, 99, 104, 32, 66, 32, 40, 111, 114, 32, 40, 97, 110, 100, 32])) (.t 2))) (.op none (.gp (.sbin .add (.t 1) (.c (.str [32])))) (.op none (.gp (.sbin .add (.t 1) (.t 0))) (.op none (.gp (.sbin .add (.t 1) (.c (.str [41, 32, 40, 97, 110, 100, 32, 40, 110, 111, 116, 32])))) (.op none (.gp (.sbin .add (.t 1) (.t 2))) (.op none (.gp (.sbin .add (.t 1) (.c (.str [41, 32, 40, 110, 111, 116, 32])))) (.op none (.gp (.sbin .add (.t 1) (.t 0))) (.op none (.gp (.sbin .add (.t 1) (.c (.str [41, 41, 41, 41])))) (.op none (.gp (.sbin .add (.c (.str [40, 101, 97, 99, 104, 32, 66, 32, 40, 111, 114, 32, 40, 110, 111, 116, 32])) (.t 2))) (.op none (.gp (.sbin .add (.t 1) (.c (.str [41, 32, 40, 110, 111, 116, 32])))) (.op none (.gp (.sbin .add (.t 1) (.t 0))) (.op none (.gp (.sbin .add (.t 1) (.c (.str [41, 41, 41])))) (.op none (.gp (.sbin .add (.c (.str [40, 101, 97, 99, 104, 32, 66, 32, 40, 111, 114, 32, 40, 97, 110, 100, 32, 40, 115, 117, 98, 32, 66, 32, 65, 41, 32, 40, 97, 110, 100, 32, 40, 110, 111, 116, 32])) (.t 2))) (.op none (.gp (.sbin .add (.t 1) (.c (.str [41, 32, 40, 110, 111, 116, 32])))) (.op none (.gp (.sbin .add (.t 1) (.t 0))) (.op none (.gp (.sbin .add (.t 1) (.c (.str [41, 41, 41, 32, 40, 97, 110, 100, 32, 40, 110, 111, 116, 32, 40, 115, 117, 98, 32, 66, 32, 65, 41, 41, 32, 40, 111, 114, 32])))) (.op none (.gp (.sbin .add (.t 1) (.t 2))) (.op none (.gp (.sbin .add (.t 1) (.c (.str [32])))) (.op none (.gp (.sbin .add (.t 1) (.t 0))) (.op none (.gp (.sbin .add (.t 1) (.c (.str [41, 41, 41, 41])))) (.nil (.op none (some 0) [] (.bsv 6 1 [(.c (.str 4 1702195828)), (.l 20), (.l 12), (.l 8), (.l 0), (.c (.str 88 13531957456532314346918654398273074523598492671440445328946697361009032866358384187868718217578502761766615676843042719696016770547588179116507911119005487868547513030336551992020566703830693785029340458603603240))]) (.op none none [] (.iad 1 (.l 0) (.s 0 .f2)) (.op none none [] (.load (.l 0)) (.op none (some 1) [] (.bsv 6 1 [(.c (.nat 3)), (.c (.nat 3)), (.c (.nat 3)), (.c (.nat 3)), (.c (.nat 2)), (.c (.nat 2))]) (.op none none [] (.iad 1 (.l 0) (.s 0 .f2)) (.op none none [] (.load (.l 0)) .nil))))))))))))))))))))))))))))) 2 [(.mk 0 .f3), (.mk 0 .f4)] [(.l 0), (.l 3)]) 
.ret))) }
theorem g4 : Good Tryd.prog 4 F4 := ⟨1, [(2, [(0, false), (1, false), (2, false), (3, false), (4, false), (5, false), (6, false), (7, false), (8, false), (9, false), (10, false), (11, false), (12, false), (13, false), (14, false), (15, false), (16, false), (17, false), (18, false), (19, false), (20, false), (21, false), (22, false), (23, false), (24, false), (25, false), (26, false), (27, false), (28, false), (29, false), (30, false), (31, false), (32, false), (34, false), (38, false), (33, false), (35, false), (36, false), (41, false), (37, false), (39, false), (40, false), (42, false)])], [5, 4, 0, 3, 2], by kernel_rfl⟩
noncomputable def F5 : EFn := { init := (.n none none none none (some 0) none none none .nil), nargs := 1, res := [(.cell (.mk 0 .f2)), (.cell (.mk 0 .f1)), (.cell (.mk 0 .f0))], body := (.seq (.reg (.op (.zal [(.oth .nilSlc)] 1) (.op (.zal [(.nat 0)] 1) (.op (.zal [(.nat 0)] 1) .nil))) [(.mk 0 .f0), (.mk 0 .f1), (.mk 0 .f2)] [(.l 0), (.l 1), (.l 2)]) 
(.seq (.seq (.reg (.op (.lens (.s 0 .f4)) (.op (.ib .gtr (.l 0) (.c (.nat 4096))) .nil)) [(.mk 0 .f5)] [(.l 0)]) 
(.cond (.s 0 .f5) (.seq (.reg (.op (.store1 (.s 0 .f2) (.c (.oth .nilSlc))) (.op (.store1 (.s 0 .f1) (.c (.nat 0))) (.op (.store1 (.s 0 .f0) (.c (.nat 4))) .nil))) [] []) 
.ret) .skip)) 
(.seq .bad 
(.seq (.reg (.op (.gp (.build [(.str []), (.int .i64 (.ofNat 0)), .nilSlc, (.int .i64 (.ofNat 0))] [(0, 1, (.t 8))])) (.op (.box (.l 0)) .nil)) [(.mk 0 .f3)] [(.l 0)]) 
(.seq (.reg (.op (.call 9 [(.s 0 .f3)]) .nil) [] []) 
(.seq (.seq (.reg (.op (.nck (.s 0 .f3)) (.op (.fad 1 (.l 0)) (.op (.load (.l 0)) (.op (.lens (.s 0 .f4)) (.op (.ib .lss (.l 1) (.l 0)) .nil))))) [(.mk 0 .f6)] [(.l 0)]) 
(.cond (.s 0 .f6) (.seq (.regD (.op none (.nck (.s 0 .f3)) (.op none (.fad 1 (.l 0)) (.fl1 3 (.l 0) (.nil (.op none none [3] (.store1 (.s 0 .f2) (.c (.oth .nilSlc))) (.op none none [] (.store1 (.s 0 .f1) (.l 1)) (.op none none [] (.store1 (.s 0 .f0) (.c (.nat 5))) .nil))))))) 0 [] []) 
.ret) .skip)) 
(.seq (.reg (.op (.nck (.s 0 .f3)) (.op (.fad 2 (.l 0)) (.op (.load (.l 0)) (.op (.store1 (.s 0 .f2) (.l 0)) (.op (.store1 (.s 0 .f1) (.c (.nat 0))) (.op (.store1 (.s 0 .f0) (.c (.nat 0))) .nil)))))) [] []) 
.ret))))))) }
theorem g5 : Good Tryd.prog 5 F5 := ⟨1, [(7, [(0, false), (1, false), (2, false), (3, true), (4, false), (5, false), (6, false)])], [4, 3, 2, 5, 0, 8, 21], by kernel_rfl⟩
noncomputable def F6 : EFn := { init := (.n none none none none none none none (some 2) (.n (some 0) none (some 1) none none none none none .nil)), nargs := 3, res := [(.cells (.mk 0 .f6) 4), (.s (.mk 1 .f5))], body := (.seq (.reg (.op (.zal [(.nat 0), (.nat 0), (.oth .nilSlc), (.oth .nilSlc)] 4) .nil) [(.mk 0 .f6), (.mk 1 .f5)] [(.l 0), (.c (.nat 0))]) 
(.seq (.seq (.reg (.op (.call 10 [(.s 1 .f0), (.s 1 .f2), (.c (.bool true))]) .nil) [(.mk 1 .f1)] [(.l 0)]) 
(.seq (.reg (.op (.ib .neq (.s 1 .f1) (.c (.nat 0))) .nil) [(.mk 1 .f3)] [(.l 0)]) 
(.cond (.s 1 .f3) (.seq (.reg (.op (.gp (.build [(.int .i64 (.ofNat 0)), (.int .i64 (.ofNat 0)), .nilSlc, .nilSlc] [])) (.op (.store 4 (.s 0 .f6) (.l 0)) .nil)) [(.mk 1 .f5)] [(.s 1 .f1)]) 
.ret) .skip))) 
(.seq (.seq (.reg (.op (.ib .lss (.s 0 .f7) (.c (.nat 1))) (.gop (.l 0) false (.gp (.mv (.t 14))) (.gop (.l 1) false (.ib .gtr (.l 0) (.c (.nat 64))) (.op (.pick (.l 2) (.c (.bool true)) (.l 0)) .nil)))) [(.mk 1 .f4)] [(.l 0)]) 
(.cond (.s 1 .f4) (.seq (.reg (.op (.gp (.build [(.int .i64 (.ofNat 0)), (.int .i64 (.ofNat 0)), .nilSlc, .nilSlc] [])) (.op (.store 4 (.s 0 .f6) (.l 0)) .nil)) [(.mk 1 .f5)] [(.c (.nat 1))]) 
.ret) .skip)) 
(.seq (.reg (.op (.gp (.build [(.int .i64 (.ofNat 0)), (.int .i64 (.ofNat 0)), .nilSlc, (.int .i64 (.ofNat 0))] [(0, 1, (.t 20)), (1, 1, (.t 14))])) (.op (.box (.l 0)) .nil)) [(.mk 0 .f1)] [(.l 0)]) 
(.seq (.seq (.reg (.op (.lenl (.s 1 .f0)) .nil) [(.mk 0 .f0), (.mk 0 .f3), (.mk 0 .f5)] [(.c (.nat 0)), (.s 1 .f0), (.l 0)]) 
(.block 0 (.loop (.seq (.reg (.op (.ib .lss (.s 0 .f0) (.s 0 .f5)) .nil) [(.mk 0 .f2)] [(.l 0)]) 
(.seq (.cond (.s 0 .f2) .skip (.exit 0)) 
(.seq (.block 1 (.seq (.reg (.op (.iad 5 (.s 0 .f3) (.s 0 .f0)) (.op (.loadn 5 (.l 0)) (.op (.zal [(.byt 0), (.nat 0), (.nat 0), (.nat 0), (.nat 0)] 5) (.op (.store 5 (.l 0) (.l 1)) .nil)))) [(.mk 0 .f4)] [(.l 1)]) 
(.reg (.op (.loadn 5 (.s 0 .f4)) (.op (.call 11 [(.s 0 .f1), (.l 0)]) .nil)) [] []))) 
(.reg (.op (.ib .add (.s 0 .f0) (.c (.nat 1))) .nil) [(.mk 0 .f0)] [(.l 0)]))))))) 
(.seq (.seq (.reg (.op (.nck (.s 0 .f1)) (.op (.fad 3 (.l 0)) (.op (.load (.l 0)) (.op (.ib .neq (.l 0) (.c (.nat 0))) .nil)))) [(.mk 1 .f6)] [(.l 0)]) 
(.cond (.s 1 .f6) (.seq (.regD (.op none (.gp (.build [(.int .i64 (.ofNat 0)), (.int .i64 (.ofNat 0)), .nilSlc, .nilSlc] [])) (.op none (.nck (.s 0 .f1)) (.op none (.fad 3 (.l 0)) (.fl1 4 (.l 0) (.nil (.op none none [4] (.store 4 (.s 0 .f6) (.l 3)) .nil)))))) 0 [(.mk 1 .f5)] [(.l 1)]) 
.ret) .skip)) 
(.seq (.reg (.op (.call 12 [(.s 0 .f1)]) (.op (.store 4 (.s 0 .f6) (.l 0)) .nil)) [(.mk 1 .f5)] [(.c (.nat 0))]) 
.ret))))))) }
theorem g6 : Good Tryd.prog 6 F6 := ⟨3, [(13, [(0, false), (1, false), (2, false), (3, false), (4, true), (5, false), (6, false)])], [32, 9, 33, 30, 11, 31, 6, 2, 0, 8, 1, 16, 24, 7, 44], by kernel_rfl⟩
noncomputable def F7 : EFn := { init := (.n none none none none none none none none (.n none none none none none none none none (.n none none none none none none none none (.n none none none (some 1) none none none none (.n none none none none none none none none (.n (some 0) none none none none none none none .nil)))))), nargs := 2, res := [(.s (.mk 5 .f3)), (.s (.mk 4 .f7))], body := (.seq (.reg (.op (.box (.s 5 .f0)) .nil) [(.mk 1 .f1), (.mk 4 .f7), (.mk 5 .f3)] [(.l 0), (.c (.nat 0)), (.c (.u64 0))]) 
(.seq (.seq (.reg (.op (.loadn 4 (.s 1 .f1)) (.op (.call 13 [(.l 0)]) .nil)) [(.mk 4 .f6)] [(.l 0)]) 
(.seq (.reg (.op (.ib .neq (.s 4 .f6) (.c (.nat 0))) .nil) [(.mk 5 .f2)] [(.l 0)]) 
(.cond (.s 5 .f2) (.seq (.reg .nil [(.mk 4 .f7), (.mk 5 .f3)] [(.s 4 .f6), (.c (.u64 0))]) 
.ret) .skip))) 
(.seq (.seq (.reg (.op (.ib .lss (.s 3 .f3) (.c (.nat 0))) (.gop (.l 0) false (.gp (.mv (.t 54))) (.gop (.l 1) false (.ib .gtr (.l 0) (.c (.nat 31))) (.op (.pick (.l 2) (.c (.bool true)) (.l 0)) .nil)))) [(.mk 5 .f1)] [(.l 0)]) 
(.cond (.s 5 .f1) (.seq (.reg .nil [(.mk 4 .f7), (.mk 5 .f3)] [(.c (.nat 1)), (.c (.u64 0))]) 
.ret) .skip)) 
(.seq (.reg .nil [(.mk 2 .f0)] [(.c (.oth .nilSlc))]) 
(.seq (.seq (.reg (.op (.ib .add (.s 3 .f3) (.c (.nat 1))) .nil) [(.mk 3 .f2), (.mk 4 .f5)] [(.c (.nat 0)), (.l 0)]) 
(.block 0 (.loop (.seq (.reg (.op (.ib .lss (.s 3 .f2) (.s 4 .f5)) .nil) [(.mk 3 .f5)] [(.l 0)]) 
(.seq (.cond (.s 3 .f5) .skip (.exit 0)) 
(.seq (.block 1 (.seq (.reg .nil [(.mk 2 .f2)] [(.s 3 .f2)]) 
(.seq (.reg (.op (.fad 2 (.s 1 .f1)) (.op (.load (.l 0)) (.op (.lenl (.l 0)) (.op (.mks1 8 (.u64 0) (.l 0) (.l 0)) .nil)))) [(.mk 0 .f1)] [(.l 0)]) 
(.seq (.seq (.reg (.op (.ib .eql (.s 2 .f2) (.c (.nat 0))) .nil) [(.mk 3 .f6)] [(.l 0)]) 
(.cond (.s 3 .f6) (.reg (.op (.fad 1 (.s 1 .f1)) (.op (.load (.l 0)) (.op (.iad 1 (.s 0 .f1) (.l 0)) (.op (.store1 (.l 0) (.c (.u64 1))) .nil)))) [] []) .skip)) 
(.seq (.seq (.reg .nil [(.mk 2 .f6), (.mk 2 .f7)] [(.c (.nat 0)), (.s 2 .f2)]) 
(.block 2 (.loop (.seq (.reg (.op (.ib .lss (.s 2 .f6) (.s 2 .f7)) .nil) [(.mk 3 .f0)] [(.l 0)]) 
(.seq (.cond (.s 3 .f0) .skip (.exit 2)) 
(.seq (.block 3 (.seq (.reg .nil [(.mk 2 .f1)] [(.s 2 .f6)]) 
(.seq (.reg (.op (.iad 1 (.s 2 .f0) (.s 2 .f1)) (.op (.load (.l 0)) (.op (.lenl (.l 0)) .nil))) [(.mk 1 .f7), (.mk 2 .f4), (.mk 2 .f5)] [(.c (.nat 0)), (.l 0), (.l 1)]) 
(.block 4 (.loop (.seq (.reg (.op (.ib .lss (.s 1 .f7) (.s 2 .f4)) .nil) [(.mk 2 .f3)] [(.l 0)]) 
(.seq (.cond (.s 2 .f3) .skip (.exit 4)) 
(.seq (.block 5 (.seq (.reg (.op (.iad 1 (.s 2 .f5) (.s 1 .f7)) (.op (.load (.l 0)) .nil)) [(.mk 0 .f5), (.mk 1 .f6)] [(.l 0), (.s 1 .f7)]) 
(.seq (.reg (.op (.ib .sub (.s 2 .f2) (.c (.nat 1))) (.op (.ib .sub (.l 0) (.s 2 .f1)) (.op (.iad 1 (.s 2 .f0) (.l 0)) (.op (.load (.l 0)) (.op (.lenl (.l 0)) .nil))))) [(.mk 1 .f0), (.mk 1 .f2), (.mk 1 .f4)] [(.c (.nat 0)), (.l 0), (.l 1)]) 
(.block 6 (.loop (.seq (.reg (.op (.ib .lss (.s 1 .f0) (.s 1 .f2)) .nil) [(.mk 1 .f3)] [(.l 0)]) 
(.seq (.cond (.s 1 .f3) .skip (.exit 6)) 
(.seq (.block 7 (.seq (.reg (.op (.iad 1 (.s 1 .f4) (.s 1 .f0)) (.op (.load (.l 0)) .nil)) [(.mk 0 .f7), (.mk 1 .f5)] [(.l 0), (.s 1 .f0)]) 
(.seq (.reg (.op (.fad 2 (.s 1 .f1)) (.op (.load (.l 0)) (.op (.iad 1 (.l 0) (.s 1 .f6)) (.op (.load (.l 0)) (.op (.iad 1 (.l 0) (.s 1 .f5)) (.op (.load (.l 0)) (.op (.lenl (.l 0)) .nil))))))) [(.mk 0 .f0), (.mk 0 .f2), (.mk 0 .f4)] [(.c (.nat 0)), (.l 1), (.l 0)]) 
(.block 8 (.loop (.seq (.reg (.op (.ib .lss (.s 0 .f0) (.s 0 .f4)) .nil) [(.mk 0 .f3)] [(.l 0)]) 
(.seq (.cond (.s 0 .f3) .skip (.exit 8)) 
(.seq (.block 9 (.seq (.reg (.op (.iad 1 (.s 0 .f2) (.s 0 .f0)) (.op (.load (.l 0)) .nil)) [(.mk 0 .f6)] [(.l 0)]) 
(.reg (.op (.iad 1 (.s 0 .f1) (.s 0 .f6)) (.op (.load (.l 0)) (.op (.ib .mul (.s 0 .f5) (.s 0 .f7)) (.op (.ib .add (.l 1) (.l 0)) (.op (.iad 1 (.s 0 .f1) (.s 0 .f6)) (.op (.store1 (.l 0) (.l 1)) .nil)))))) [] []))) 
(.reg (.op (.ib .add (.s 0 .f0) (.c (.nat 1))) .nil) [(.mk 0 .f0)] [(.l 0)]))))))))) 
(.reg (.op (.ib .add (.s 1 .f0) (.c (.nat 1))) .nil) [(.mk 1 .f0)] [(.l 0)]))))))))) 
(.reg (.op (.ib .add (.s 1 .f7) (.c (.nat 1))) .nil) [(.mk 1 .f7)] [(.l 0)]))))))))) 
(.reg (.op (.ib .add (.s 2 .f6) (.c (.nat 1))) .nil) [(.mk 2 .f6)] [(.l 0)]))))))) 
(.reg (.op (.bsv 1 1 [(.s 0 .f1)]) (.op (.app 1 24 (.s 2 .f0) (.l 0)) .nil)) [(.mk 2 .f0)] [(.l 0)])))))) 
(.reg (.op (.ib .add (.s 3 .f2) (.c (.nat 1))) .nil) [(.mk 3 .f2)] [(.l 0)]))))))) 
(.seq (.reg .nil [(.mk 3 .f4)] [(.c (.u64 0))]) 
(.seq (.seq (.reg (.op (.fad 3 (.s 1 .f1)) (.op (.load (.l 0)) (.op (.lenl (.l 0)) .nil))) [(.mk 3 .f1), (.mk 3 .f7), (.mk 4 .f1)] [(.c (.nat 0)), (.l 1), (.l 0)]) 
(.block 10 (.loop (.seq (.reg (.op (.ib .lss (.s 3 .f1) (.s 4 .f1)) .nil) [(.mk 4 .f2)] [(.l 0)]) 
(.seq (.cond (.s 4 .f2) .skip (.exit 10)) 
(.seq (.block 11 (.seq (.reg (.op (.iad 1 (.s 3 .f7) (.s 3 .f1)) (.op (.load (.l 0)) .nil)) [(.mk 4 .f0), (.mk 4 .f4)] [(.l 0), (.s 3 .f1)]) 
(.seq (.reg .nil [(.mk 4 .f3)] [(.s 4 .f0)]) 
(.cond (.s 4 .f3) (.reg (.op (.iad 1 (.s 2 .f0) (.s 3 .f3)) (.op (.load (.l 0)) (.op (.iad 1 (.l 0) (.s 4 .f4)) (.op (.load (.l 0)) (.op (.ib .add (.s 3 .f4) (.l 0)) .nil))))) [(.mk 3 .f4)] [(.l 0)]) .skip)))) 
(.reg (.op (.ib .add (.s 3 .f1) (.c (.nat 1))) .nil) [(.mk 3 .f1)] [(.l 0)]))))))) 
(.seq (.reg .nil [(.mk 4 .f7), (.mk 5 .f3)] [(.c (.nat 0)), (.s 3 .f4)]) 
.ret)))))))) }
theorem g7 : Good Tryd.prog 7 F7 := ⟨2, [], [82, 9, 80, 83, 81, 12, 16, 14, 68, 2, 67, 69, 66, 13, 11, 55, 7, 10, 8, 56, 54, 53, 47, 46, 48, 107, 33, 1, 17, 34, 41, 105, 19, 106, 108, 112, 18, 32, 6, 5, 0, 30, 23, 4], by kernel_rfl⟩
noncomputable def F9 : EFn := { init := (.n (some 0) none none none none none none none (.n none none none none none none none none .nil)), nargs := 1, res := [(.s (.mk 0 .f6))], body := (.seq (.reg .nil [(.mk 0 .f6)] [(.c (.nat 0))]) 
(.seq (.reg (.op (.call 14 [(.s 0 .f0), (.c (.str 27 50383084683077978023614485554960453348842868478518758969786392872)), (.c (.nat 2))]) (.op (.ib .eql (.l 0) (.c (.byt 40))) .nil)) [(.mk 0 .f3)] [(.l 0)]) 
(.seq (.seq (.reg (.op (.nck (.s 0 .f0)) (.op (.fad 3 (.l 0)) (.op (.load (.l 0)) (.op (.ib .eql (.l 0) (.c (.nat 64))) .nil)))) [(.mk 0 .f5)] [(.l 0)]) 
(.cond (.s 0 .f5) .bad .skip)) 
(.seq (.reg (.op (.nck (.s 0 .f0)) (.op (.fad 3 (.l 0)) (.op (.load (.l 0)) (.op (.ib .add (.l 0) (.c (.nat 1))) (.op (.nck (.s 0 .f0)) (.op (.fad 3 (.l 0)) (.op (.store1 (.l 0) (.l 2)) .nil))))))) [] []) 
(.seq (.seq (.reg .nil [(.mk 0 .f4)] [(.s 0 .f3)]) 
(.cond (.s 0 .f4) (.reg (.op (.nck (.s 0 .f0)) (.op (.fad 1 (.l 0)) (.op (.load (.l 0)) (.op (.ib .add (.l 0) (.c (.nat 1))) (.op (.nck (.s 0 .f0)) (.op (.fad 1 (.l 0)) (.op (.store1 (.l 0) (.l 2)) .nil))))))) [] []) .skip)) 
(.seq (.reg (.op (.call 15 [(.s 0 .f0), (.s 0 .f3)]) (.op (.gp (.build [(.int .u8 (.ofNat 0)), (.int .i64 (.ofNat 0)), (.int .i64 (.ofNat 0)), (.int .i64 (.ofNat 0)), (.int .i64 (.ofNat 0))] [(0, 1, (.t 1))])) (.op (.zal [(.byt 0), (.nat 0), (.nat 0), (.nat 0), (.nat 0)] 5) (.op (.store 5 (.l 0) (.l 1)) .nil)))) [(.mk 0 .f1)] [(.l 1)]) 
(.seq (.reg (.op (.fad 0 (.s 0 .f1)) (.op (.load (.l 0)) (.op (.call 16 [(.l 0)]) (.op (.zal [(.str 0 0), (.nat 0), (.nat 0)] 3) (.op (.store 3 (.l 0) (.l 1)) .nil))))) [(.mk 0 .f2)] [(.l 1)]) 
(.seq (.seq (.reg (.op (.fad 1 (.s 0 .f2)) (.op (.load (.l 0)) (.op (.ib .gtr (.l 0) (.c (.nat 0))) .nil))) [(.mk 0 .f7)] [(.l 0)]) 
(.cond (.s 0 .f7) (.reg (.op (.call 17 [(.s 0 .f0)]) (.op (.fad 1 (.s 0 .f1)) (.op (.store1 (.l 0) (.l 1)) .nil))) [] []) .skip)) 
(.seq (.seq (.reg (.op (.fad 1 (.s 0 .f2)) (.op (.load (.l 0)) (.op (.ib .gtr (.l 0) (.c (.nat 1))) .nil))) [(.mk 1 .f0)] [(.l 0)]) 
(.cond (.s 1 .f0) (.reg (.op (.call 17 [(.s 0 .f0)]) (.op (.fad 2 (.s 0 .f1)) (.op (.store1 (.l 0) (.l 1)) .nil))) [] []) .skip)) 
(.seq (.seq (.reg (.op (.fad 2 (.s 0 .f2)) (.op (.load (.l 0)) (.op (.ib .gtr (.l 0) (.c (.nat 0))) .nil))) [(.mk 1 .f1)] [(.l 0)]) 
(.cond (.s 1 .f1) (.seq (.reg (.op (.call 18 [(.s 0 .f0), (.c (.str 1 32))]) .nil) [] []) 
(.reg (.op (.call 9 [(.s 0 .f0)]) (.op (.fad 3 (.s 0 .f1)) (.op (.store1 (.l 0) (.l 1)) .nil))) [] [])) .skip)) 
(.seq (.seq (.reg (.op (.fad 2 (.s 0 .f2)) (.op (.load (.l 0)) (.op (.ib .gtr (.l 0) (.c (.nat 1))) .nil))) [(.mk 1 .f2)] [(.l 0)]) 
(.cond (.s 1 .f2) (.seq (.reg (.op (.call 18 [(.s 0 .f0), (.c (.str 1 32))]) .nil) [] []) 
(.reg (.op (.call 9 [(.s 0 .f0)]) (.op (.fad 4 (.s 0 .f1)) (.op (.store1 (.l 0) (.l 1)) .nil))) [] [])) .skip)) 
(.seq (.seq (.reg .nil [(.mk 1 .f3)] [(.s 0 .f3)]) 
(.cond (.s 1 .f3) (.reg (.op (.call 18 [(.s 0 .f0), (.c (.str 1 41))]) .nil) [] []) .skip)) 
(.seq (.regD (.op none (.nck (.s 0 .f0)) (.op none (.fad 2 (.l 0)) (.op none (.load (.l 0)) (.op none (.loadn 5 (.s 0 .f1)) (.nil (.op none (some 0) [] (.bsl 1 5 [(.int .u8 (.ofNat 0)), (.int .i64 (.ofNat 0)), (.int .i64 (.ofNat 0)), (.int .i64 (.ofNat 0)), (.int .i64 (.ofNat 0))] [(0, 5, (.l 0))]) (.op none (some 1) [] (.app 5 40 (.l 2) (.l 0)) (.op none none [] (.nck (.s 0 .f0)) (.op none none [] (.fad 2 (.l 0)) (.op none none [] (.store1 (.l 0) (.l 2)) .nil)))))))))) 2 [] []) 
(.seq (.reg (.op (.nck (.s 0 .f0)) (.op (.fad 2 (.l 0)) (.op (.load (.l 0)) (.op (.lenl (.l 0)) (.op (.ib .sub (.l 0) (.c (.nat 1))) .nil))))) [(.mk 0 .f6)] [(.l 0)]) 
.ret)))))))))))))) }
theorem g9 : Good Tryd.prog 9 F9 := ⟨1, [(21, [(0, false), (1, false), (2, false), (3, false), (4, false), (5, false), (6, false), (7, false), (8, false), (9, false), (10, false)])], [0, 4, 5, 3, 27, 13, 2, 44, 50, 56, 64, 70], by kernel_rfl⟩
noncomputable def F10 : EFn := { init := (.n (some 1) none none none (some 2) none none (some 0) .nil), nargs := 3, res := [(.s (.mk 0 .f2))], body := (.seq (.reg (.op (.box (.s 0 .f4)) .nil) [(.mk 0 .f1), (.mk 0 .f2)] [(.l 0), (.c (.nat 0))]) 
(.seq (.reg .nil [(.mk 0 .f5)] [(.c (.nat 6))]) 
(.seq (.seq (.reg (.op (.load (.s 0 .f1)) .nil) [(.mk 0 .f3)] [(.l 0)]) 
(.cond (.s 0 .f3) (.reg .nil [(.mk 0 .f5)] [(.c (.nat 3))]) .skip)) 
(.seq (.seq (.reg (.op (.ib .lss (.s 0 .f0) (.c (.nat 0))) (.gop (.l 0) false (.gp (.mv (.t 0))) (.gop (.l 1) false (.gp (.mv (.t 10))) (.gop (.l 2) false (.ib .gtr (.l 1) (.l 0)) (.op (.pick (.l 3) (.c (.bool true)) (.l 0)) .nil))))) [(.mk 0 .f6)] [(.l 0)]) 
(.cond (.s 0 .f6) (.seq (.reg .nil [(.mk 0 .f2)] [(.c (.nat 7))]) 
.ret) .skip)) 
(.seq (.reg (.op (.mkf 20 [] [(.s 0 .f1)]) (.op (.call 19 [(.s 0 .f7), (.s 0 .f0), (.l 0)]) .nil)) [(.mk 0 .f2)] [(.l 0)]) 
.ret))))) }
theorem g10 : Good Tryd.prog 10 F10 := ⟨3, [], [1, 5, 6, 8, 2, 7, 15, 0], by kernel_rfl⟩
noncomputable def F11 : EFn := { init := (.n none none none none none none none (some 0) (.n (some 1) none none none none none none none .nil)), nargs := 2, res := [], body := (.seq (.reg (.op (.box (.s 1 .f0)) .nil) [(.mk 0 .f1)] [(.l 0)]) 
(.seq (.seq (.reg (.op (.call 21 [(.s 0 .f7)]) (.op (.lenl (.l 0)) .nil)) [(.mk 0 .f0), (.mk 0 .f4), (.mk 0 .f5)] [(.c (.nat 0)), (.l 1), (.l 0)]) 
(.block 0 (.loop (.seq (.reg (.op (.ib .lss (.s 0 .f0) (.s 0 .f5)) .nil) [(.mk 0 .f6)] [(.l 0)]) 
(.seq (.cond (.s 0 .f6) .skip (.exit 0)) 
(.seq (.block 1 (.seq (.reg (.op (.iad 2 (.s 0 .f4) (.s 0 .f0)) (.op (.loadn 2 (.l 0)) (.op (.zal [(.byt 0), (.oth .nilFn)] 2) (.op (.store 2 (.l 0) (.l 1)) .nil)))) [(.mk 0 .f2)] [(.l 1)]) 
(.seq (.reg (.op (.fad 0 (.s 0 .f2)) (.op (.load (.l 0)) (.op (.fad 0 (.s 0 .f1)) (.op (.load (.l 0)) (.op (.ib .eql (.l 2) (.l 0)) .nil))))) [(.mk 0 .f3)] [(.l 0)]) 
(.cond (.s 0 .f3) (.seq (.reg (.op (.fad 1 (.s 0 .f2)) (.op (.load (.l 0)) (.op (.loadn 5 (.s 0 .f1)) (.op (.callv (.l 1) [(.l 0)]) .nil)))) [] []) 
.ret) .skip)))) 
(.reg (.op (.ib .add (.s 0 .f0) (.c (.nat 1))) .nil) [(.mk 0 .f0)] [(.l 0)]))))))) 
(.regD (.op none (.nck (.s 0 .f7)) (.op none (.fad 0 (.l 0)) (.op none (.loadn 5 (.s 0 .f1)) (.op none (.load (.l 1)) (.nil (.op none none [] (.call 23 [(.l 1), (.l 0)]) (.op none none [] (.call 22 [(.s 0 .f7), (.l 0), (.c (.nat 0))]) .nil))))))) 0 [] []))) }
theorem g11 : Good Tryd.prog 11 F11 := ⟨2, [(7, [(0, false), (2, false), (3, false), (4, false), (1, false), (5, false), (6, false), (7, false)])], [9, 3, 5, 17, 7, 8, 10, 0, 1], by kernel_rfl⟩
noncomputable def F12 : EFn := { init := (.n (some 0) none none none none none none none .nil), nargs := 1, res := [(.cells (.mk 0 .f1) 4)], body := (.seq (.reg (.op (.zal [(.nat 0), (.nat 0), (.oth .nilSlc), (.oth .nilSlc)] 4) .nil) [(.mk 0 .f1)] [(.l 0)]) 
(.seq (.seq (.reg (.op (.nck (.s 0 .f0)) (.op (.fad 2 (.l 0)) (.op (.load (.l 0)) (.op (.lenl (.l 0)) (.op (.ib .sub (.l 0) (.c (.nat 1))) .nil))))) [(.mk 0 .f2)] [(.l 0)]) 
(.seq (.reg (.op (.ib .geq (.s 0 .f2) (.c (.nat 0))) (.gop (.l 0) true (.gp (.mv (.t 0))) (.gop (.l 1) true (.nck (.l 0)) (.gop (.l 2) true (.fad 3 (.l 0)) (.gop (.l 3) true (.load (.l 0)) (.gop (.l 4) true (.ib .eql (.l 0) (.c (.nat 0))) (.op (.pick (.l 5) (.l 0) (.c (.bool false))) .nil))))))) [(.mk 0 .f3)] [(.l 0)]) 
(.cond (.s 0 .f3) (.regD (.op none (.nck (.s 0 .f0)) (.op none (.fad 2 (.l 0)) (.op none (.nck (.s 0 .f0)) (.op none (.fad 2 (.l 0)) (.fl1 11 (.l 0) (.op none (.gp (.slc 4 none (some (.t 4)) none (.t 1))) (.op none (.load (.l 4)) (.op none (.iad 4 (.l 0) (.s 0 .f2)) (.op none (.loadn 4 (.l 0)) (.nil (.op none none [11] (.store 4 (.s 0 .f1) (.l 0)) (.op none none [] (.nck (.s 0 .f0)) (.op none none [] (.fad 2 (.l 0)) (.op none none [] (.store1 (.l 0) (.l 6)) .nil)))))))))))))) 0 [] []) .skip))) 
(.seq (.reg (.op (.loadn 4 (.s 0 .f1)) (.op (.store 4 (.s 0 .f1) (.l 0)) .nil)) [] []) 
.ret))) }
theorem g12 : Good Tryd.prog 12 F12 := ⟨1, [(3, [(0, false), (1, false), (2, false), (3, false), (5, false), (8, false), (9, false), (10, false), (11, true), (12, false), (13, false), (4, false), (6, false), (7, false), (14, false), (15, false), (16, false), (17, false)])], [0, 2, 3, 18], by kernel_rfl⟩
noncomputable def F13 : EFn := { init := (.n none none none none none none none none (.n none none none none none none none none (.n none none none none none none none none (.n none none (some 0) none none none none none .nil)))), nargs := 1, res := [(.s (.mk 2 .f5))], body := (.seq (.reg (.op (.box (.s 3 .f2)) .nil) [(.mk 1 .f1), (.mk 2 .f5)] [(.l 0), (.c (.nat 0))]) 
(.seq (.reg (.op (.fad 2 (.s 1 .f1)) (.op (.load (.l 0)) (.op (.lenl (.l 0)) (.op (.zal [(.nat 0)] 1) (.op (.store1 (.l 0) (.l 1)) .nil))))) [(.mk 2 .f0)] [(.l 1)]) 
(.seq (.reg (.op (.mkf 24 [] [(.s 2 .f0)]) .nil) [(.mk 0 .f1)] [(.l 0)]) 
(.seq (.block 0 (.seq (.reg (.op (.fad 0 (.s 1 .f1)) (.op (.load (.l 0)) (.op (.ib .lss (.l 0) (.c (.nat 0))) (.gop (.l 0) false (.fad 0 (.s 1 .f1)) (.gop (.l 1) false (.load (.l 0)) (.gop (.l 2) false (.ib .gtr (.l 0) (.c (.nat 3))) (.op (.pick (.l 3) (.c (.bool true)) (.l 0)) .nil))))))) [(.mk 3 .f1)] [(.l 0)]) 
(.cond (.s 3 .f1) (.seq (.reg .nil [(.mk 2 .f5)] [(.c (.nat 7))]) 
.ret) (.seq (.reg (.op (.load (.s 2 .f0)) (.op (.ib .eql (.l 0) (.c (.nat 0))) .nil)) [(.mk 2 .f6)] [(.l 0)]) 
(.cond (.s 2 .f6) (.seq (.reg .nil [(.mk 2 .f5)] [(.c (.nat 3))]) 
.ret) (.seq (.reg (.op (.load (.s 2 .f0)) (.op (.ib .gtr (.l 0) (.c (.nat 64))) .nil)) [(.mk 2 .f7)] [(.l 0)]) 
(.cond (.s 2 .f7) (.seq (.reg .nil [(.mk 2 .f5)] [(.c (.nat 4))]) 
.ret) (.seq (.reg (.op (.fad 3 (.s 1 .f1)) (.op (.load (.l 0)) (.op (.lenl (.l 0)) (.op (.load (.s 2 .f0)) (.op (.ib .neq (.l 1) (.l 0)) .nil))))) [(.mk 3 .f0)] [(.l 0)]) 
(.cond (.s 3 .f0) (.seq (.reg .nil [(.mk 2 .f5)] [(.c (.nat 2))]) 
.ret) (.seq (.reg (.op (.fad 1 (.s 1 .f1)) (.op (.load (.l 0)) (.op (.callv (.s 0 .f1) [(.l 0)]) (.op (.nt (.l 0)) .nil)))) [(.mk 3 .f3)] [(.l 0)]) 
(.cond (.s 3 .f3) (.seq (.reg .nil [(.mk 2 .f5)] [(.c (.nat 8))]) 
.ret) .skip))))))))))) 
(.seq (.seq (.reg (.op (.fad 2 (.s 1 .f1)) (.op (.load (.l 0)) (.op (.lenl (.l 0)) .nil))) [(.mk 1 .f6), (.mk 2 .f2), (.mk 2 .f3)] [(.c (.nat 0)), (.l 0), (.l 1)]) 
(.block 1 (.loop (.seq (.reg (.op (.ib .lss (.s 1 .f6) (.s 2 .f2)) .nil) [(.mk 2 .f1)] [(.l 0)]) 
(.seq (.cond (.s 2 .f1) .skip (.exit 1)) 
(.seq (.block 2 (.seq (.reg (.op (.iad 1 (.s 2 .f3) (.s 1 .f6)) (.op (.load (.l 0)) .nil)) [(.mk 1 .f7)] [(.l 0)]) 
(.seq (.seq (.reg (.op (.lenl (.s 1 .f7)) (.op (.load (.s 2 .f0)) (.op (.ib .neq (.l 1) (.l 0)) .nil))) [(.mk 2 .f4)] [(.l 0)]) 
(.cond (.s 2 .f4) (.seq (.reg .nil [(.mk 2 .f5)] [(.c (.nat 2))]) 
.ret) .skip)) 
(.seq (.reg (.op (.lenl (.s 1 .f7)) .nil) [(.mk 0 .f7), (.mk 1 .f2), (.mk 1 .f4)] [(.c (.nat 0)), (.l 0), (.s 1 .f7)]) 
(.block 3 (.loop (.seq (.reg (.op (.ib .lss (.s 0 .f7) (.s 1 .f2)) .nil) [(.mk 1 .f3)] [(.l 0)]) 
(.seq (.cond (.s 1 .f3) .skip (.exit 3)) 
(.seq (.block 4 (.seq (.reg (.op (.iad 1 (.s 1 .f4) (.s 0 .f7)) (.op (.load (.l 0)) .nil)) [(.mk 1 .f0)] [(.l 0)]) 
(.seq (.seq (.reg (.op (.lenl (.s 1 .f0)) (.op (.fad 0 (.s 1 .f1)) (.op (.load (.l 0)) (.op (.ib .shl (.c (.nat 1)) (.l 0)) (.op (.ib .neq (.l 3) (.l 0)) .nil))))) [(.mk 1 .f5)] [(.l 0)]) 
(.cond (.s 1 .f5) (.seq (.reg .nil [(.mk 2 .f5)] [(.c (.nat 2))]) 
.ret) .skip)) 
(.seq (.reg (.op (.lenl (.s 1 .f0)) .nil) [(.mk 0 .f0), (.mk 0 .f3), (.mk 0 .f4)] [(.c (.nat 0)), (.s 1 .f0), (.l 0)]) 
(.block 5 (.loop (.seq (.reg (.op (.ib .lss (.s 0 .f0) (.s 0 .f4)) .nil) [(.mk 0 .f2)] [(.l 0)]) 
(.seq (.cond (.s 0 .f2) .skip (.exit 5)) 
(.seq (.block 6 (.seq (.reg (.op (.iad 1 (.s 0 .f3) (.s 0 .f0)) (.op (.load (.l 0)) .nil)) [(.mk 0 .f6)] [(.l 0)]) 
(.seq (.reg (.op (.callv (.s 0 .f1) [(.s 0 .f6)]) (.op (.nt (.l 0)) .nil)) [(.mk 0 .f5)] [(.l 0)]) 
(.cond (.s 0 .f5) (.seq (.reg .nil [(.mk 2 .f5)] [(.c (.nat 8))]) 
.ret) .skip)))) 
(.reg (.op (.ib .add (.s 0 .f0) (.c (.nat 1))) .nil) [(.mk 0 .f0)] [(.l 0)])))))))))) 
(.reg (.op (.ib .add (.s 0 .f7) (.c (.nat 1))) .nil) [(.mk 0 .f7)] [(.l 0)])))))))))) 
(.reg (.op (.ib .add (.s 1 .f6) (.c (.nat 1))) .nil) [(.mk 1 .f6)] [(.l 0)]))))))) 
(.seq (.reg .nil [(.mk 2 .f5)] [(.c (.nat 0))]) 
.ret)))))) }
theorem g13 : Good Tryd.prog 13 F13 := ⟨1, [], [67, 4, 68, 65, 66, 74, 10, 55, 8, 1, 54, 56, 53, 64, 45, 6, 3, 46, 44, 43, 52, 2, 24, 27, 30, 15, 0, 36], by kernel_rfl⟩
noncomputable def F14 : EFn := { init := (.n (some 0) none none (some 1) none (some 2) none none .nil), nargs := 3, res := [(.s (.mk 0 .f1))], body := (.seq (.reg .nil [(.mk 0 .f1)] [(.c (.byt 0))]) 
(.seq (.block 0 (.seq (.regD (.op none (.nck (.s 0 .f0)) (.op none (.fad 1 (.l 0)) (.op none (.nck (.s 0 .f0)) (.op none (.fad 0 (.l 0)) (.op none (.load (.l 2)) (.op none (.load (.l 1)) (.op none (.lens (.l 0)) (.op none (.ib .eql (.l 2) (.l 0)) (.nil .nil))))))))) 0 [(.mk 0 .f2)] [(.l 0)]) 
(.cond (.s 0 .f2) .bad (.seq (.regD (.op none (.nck (.s 0 .f0)) (.op none (.fad 0 (.l 0)) (.op none (.nck (.s 0 .f0)) (.op none (.fad 1 (.l 0)) (.op none (.load (.l 2)) (.op none (.load (.l 1)) (.op none (.ixs (.l 1) (.l 0)) (.nil (.op none none [] (.call 25 [(.s 0 .f3), (.l 0)]) (.op none none [] (.ib .lss (.l 0) (.c (.nat 0))) .nil)))))))))) 0 [(.mk 0 .f4)] [(.l 0)]) 
(.cond (.s 0 .f4) .bad .skip))))) 
(.seq (.regD (.op none (.nck (.s 0 .f0)) (.op none (.fad 0 (.l 0)) (.op none (.nck (.s 0 .f0)) (.op none (.fad 1 (.l 0)) (.op none (.load (.l 2)) (.op none (.load (.l 1)) (.op none (.ixs (.l 1) (.l 0)) (.nil .nil)))))))) 0 [(.mk 0 .f1)] [(.l 0)]) 
.ret))) }
theorem g14 : Good Tryd.prog 14 F14 := ⟨3, [(1, [(0, false), (1, false), (2, false), (4, false), (5, false), (6, false), (3, false), (7, false), (8, false), (9, false), (10, false)]), (3, [(0, false), (1, false), (2, false), (3, false), (5, false), (6, false), (7, false), (4, false), (8, false), (9, false), (10, false), (11, false), (12, false)]), (5, [(0, false), (1, false), (2, false), (4, false), (5, false), (6, false), (3, false), (7, false), (8, false), (9, false)])], [0, 6, 7, 1, 24, 2], by kernel_rfl⟩
noncomputable def F15 : EFn := { init := (.n none none (some 0) none none (some 1) none none .nil), nargs := 2, res := [(.s (.mk 0 .f7))], body := (.seq (.reg .nil [(.mk 0 .f7)] [(.c (.byt 0))]) 
(.seq (.reg (.op (.call 14 [(.s 0 .f2), (.c (.str 26 196808924543273351654744084199064270893917454994213902225728097)), (.c (.nat 2))]) .nil) [] []) 
(.seq (.regD (.op none (.nck (.s 0 .f2)) (.op none (.fad 0 (.l 0)) (.op none (.nck (.s 0 .f2)) (.op none (.fad 1 (.l 0)) (.op none (.load (.l 2)) (.op none (.load (.l 1)) (.op none (.gp (.sls (some (.t 1)) none (.t 3))) (.nil .nil)))))))) 0 [(.mk 0 .f6)] [(.l 0)]) 
(.seq (.reg (.op (.lens (.s 0 .f6)) (.op (.call 26 [(.s 0 .f6), (.c (.str 26 196808924543273351654744084199064270893917454994213902225728097))]) (.op (.lens (.l 0)) (.op (.ib .sub (.l 2) (.l 0)) (.op (.gp (.sls none (some (.t 1)) (.t 12))) .nil))))) [(.mk 0 .f1)] [(.l 0)]) 
(.seq (.seq (.reg .nil [(.mk 0 .f0)] [(.c (.byt 1))]) 
(.block 0 (.loop (.seq (.seq (.reg (.op (.ib .leq (.s 0 .f0) (.c (.byt 15))) .nil) [(.mk 0 .f3)] [(.l 0)]) 
(.cond (.s 0 .f3) .skip (.exit 0))) 
(.seq (.block 1 (.seq (.reg (.op (.call 16 [(.s 0 .f0)]) (.op (.gp (.fld 0 1 false (.t 1))) (.op (.gp (.sbin .eql (.t 1) (.t 2))) (.gop (.l 0) true (.gp (.mv (.t 0))) (.gop (.l 1) true (.ib .neq (.l 0) (.c (.byt 1))) (.gop (.l 2) true (.gp (.mv (.t 10))) (.gop (.l 3) true (.eq 0 0 .bool false (.l 1) (.l 0)) (.op (.pick (.l 4) (.l 0) (.c (.bool false))) .nil)))))))) [(.mk 0 .f4)] [(.l 0)]) 
(.cond (.s 0 .f4) (.seq (.reg (.op (.nck (.s 0 .f2)) (.op (.fad 1 (.l 0)) (.op (.load (.l 0)) (.op (.lens (.s 0 .f1)) (.op (.ib .add (.l 1) (.l 0)) (.op (.nck (.s 0 .f2)) (.op (.fad 1 (.l 0)) (.op (.store1 (.l 0) (.l 2)) .nil)))))))) [] []) 
(.seq (.reg .nil [(.mk 0 .f7)] [(.s 0 .f0)]) 
.ret)) .skip))) 
(.reg (.op (.ib .add (.s 0 .f0) (.c (.byt 1))) .nil) [(.mk 0 .f0)] [(.l 0)])))))) 
.bad))))) }
theorem g15 : Good Tryd.prog 15 F15 := ⟨2, [(2, [(0, false), (1, false), (2, false), (4, false), (5, false), (6, false), (3, false), (7, false), (8, false), (9, false)])], [7, 6, 0, 28, 41, 1, 5, 4], by kernel_rfl⟩
noncomputable def F16 : EFn := { init := (.n none none none (some 0) none none none none (.n none none none none none none none none .nil)), nargs := 1, res := [(.cells (.mk 0 .f1) 3)], body := (.seq (.reg (.op (.zal [(.str 0 0), (.nat 0), (.nat 0)] 3) .nil) [(.mk 0 .f1)] [(.l 0)]) 
(.seq (.seq (.reg .nil [(.mk 1 .f0)] [(.s 0 .f3)]) 
(.block 0 (.seq (.reg (.op (.ib .eql (.s 1 .f0) (.c (.byt 1))) .nil) [(.mk 1 .f3)] [(.l 0)]) 
(.cond (.s 1 .f3) (.seq (.reg (.op (.gp (.build [(.str []), (.int .i64 (.ofNat 0)), (.int .i64 (.ofNat 0))] [(0, 1, (.c (.str [116, 114, 117, 101])))])) (.op (.store 3 (.s 0 .f1) (.l 0)) .nil)) [] []) 
.ret) (.seq (.reg (.op (.ib .eql (.s 1 .f0) (.c (.byt 3))) .nil) [(.mk 1 .f1)] [(.l 0)]) 
(.cond (.s 1 .f1) (.seq (.reg (.op (.gp (.build [(.str []), (.int .i64 (.ofNat 0)), (.int .i64 (.ofNat 0))] [(0, 1, (.c (.str [101, 109, 112, 116, 121]))), (1, 1, (.c (.int .i64 (.ofNat 1)))), (2, 1, (.c (.int .i64 (.ofNat 0))))])) (.op (.store 3 (.s 0 .f1) (.l 0)) .nil)) [] []) 
.ret) (.seq (.reg (.op (.ib .eql (.s 1 .f0) (.c (.byt 4))) .nil) [(.mk 1 .f4)] [(.l 0)]) 
(.cond (.s 1 .f4) (.seq (.reg (.op (.gp (.build [(.str []), (.int .i64 (.ofNat 0)), (.int .i64 (.ofNat 0))] [(0, 1, (.c (.str [115, 105, 110, 103, 108, 101]))), (1, 1, (.c (.int .i64 (.ofNat 1)))), (2, 1, (.c (.int .i64 (.ofNat 0))))])) (.op (.store 3 (.s 0 .f1) (.l 0)) .nil)) [] []) 
.ret) (.seq (.reg (.op (.ib .eql (.s 1 .f0) (.c (.byt 9))) .nil) [(.mk 1 .f5)] [(.l 0)]) 
(.cond (.s 1 .f5) (.seq (.reg (.op (.gp (.build [(.str []), (.int .i64 (.ofNat 0)), (.int .i64 (.ofNat 0))] [(0, 1, (.c (.str [110, 111, 116]))), (1, 1, (.c (.int .i64 (.ofNat 0)))), (2, 1, (.c (.int .i64 (.ofNat 1))))])) (.op (.store 3 (.s 0 .f1) (.l 0)) .nil)) [] []) 
.ret) (.seq (.reg (.op (.ib .eql (.s 1 .f0) (.c (.byt 10))) .nil) [(.mk 1 .f6)] [(.l 0)]) 
(.cond (.s 1 .f6) (.seq (.reg (.op (.gp (.build [(.str []), (.int .i64 (.ofNat 0)), (.int .i64 (.ofNat 0))] [(0, 1, (.c (.str [97, 110, 100]))), (1, 1, (.c (.int .i64 (.ofNat 0)))), (2, 1, (.c (.int .i64 (.ofNat 2))))])) (.op (.store 3 (.s 0 .f1) (.l 0)) .nil)) [] []) 
.ret) (.seq (.reg (.op (.ib .eql (.s 1 .f0) (.c (.byt 11))) .nil) [(.mk 1 .f7)] [(.l 0)]) 
(.cond (.s 1 .f7) (.seq (.reg (.op (.gp (.build [(.str []), (.int .i64 (.ofNat 0)), (.int .i64 (.ofNat 0))] [(0, 1, (.c (.str [111, 114]))), (1, 1, (.c (.int .i64 (.ofNat 0)))), (2, 1, (.c (.int .i64 (.ofNat 2))))])) (.op (.store 3 (.s 0 .f1) (.l 0)) .nil)) [] []) 
.ret) .skip)))))))))))))) 
(.seq (.seq (.reg (.op (.ib .geq (.s 0 .f3) (.c (.byt 12))) (.gop (.l 0) true (.gp (.mv (.t 6))) (.gop (.l 1) true (.ib .leq (.l 0) (.c (.byt 15))) (.op (.pick (.l 2) (.l 0) (.c (.bool false))) .nil)))) [(.mk 1 .f2)] [(.l 0)]) 
(.cond (.s 1 .f2) (.seq (.reg (.op (.gp (.build [(.str []), (.str []), (.str []), (.str [])] [(0, 1, (.c (.str [101, 120, 105, 115, 116, 115]))), (1, 1, (.c (.str [102, 111, 114, 97, 108, 108]))), (2, 1, (.c (.str [115, 111, 109, 101]))), (3, 1, (.c (.str [101, 97, 99, 104])))])) (.op (.ib .sub (.s 0 .f3) (.c (.byt 12))) (.op (.gp (.ixa 4 1 false (.t 3) (.t 1))) (.op (.gp (.build [(.str []), (.int .i64 (.ofNat 0)), (.int .i64 (.ofNat 0))] [(0, 1, (.t 1)), (1, 1, (.c (.int .i64 (.ofNat 1)))), (2, 1, (.c (.int .i64 (.ofNat 1))))])) (.op (.store 3 (.s 0 .f1) (.l 0)) .nil))))) [] []) 
.ret) .skip)) 
(.seq (.seq (.reg (.op (.gp (.build [(.str []), (.str []), (.str []), (.str []), (.str []), (.str []), (.str []), (.str []), (.str [])] [(2, 1, (.c (.str [115, 117, 98]))), (5, 1, (.c (.str [110, 101, 120, 116]))), (6, 1, (.c (.str [108, 101, 115, 115]))), (7, 1, (.c (.str [108, 101, 102, 116]))), (8, 1, (.c (.str [114, 105, 103, 104, 116])))])) .nil) [(.mk 0 .f0), (.mk 0 .f7)] [(.c (.nat 0)), (.l 0)]) 
(.block 1 (.loop (.seq (.reg (.op (.ib .lss (.s 0 .f0) (.c (.nat 9))) .nil) [(.mk 0 .f6)] [(.l 0)]) 
(.seq (.cond (.s 0 .f6) .skip (.exit 1)) 
(.seq (.block 2 (.seq (.reg (.op (.gp (.ixa 9 1 false (.t 14) (.t 0))) .nil) [(.mk 0 .f2), (.mk 0 .f5)] [(.l 0), (.s 0 .f0)]) 
(.seq (.reg (.op (.ci .i64 (.s 0 .f3)) (.op (.ib .eql (.s 0 .f5) (.l 0)) (.gop (.l 0) true (.gp (.mv (.t 4))) (.gop (.l 1) true (.gp (.sbin .neq (.t 1) (.c (.str [])))) (.op (.pick (.l 2) (.l 0) (.c (.bool false))) .nil))))) [(.mk 0 .f4)] [(.l 0)]) 
(.cond (.s 0 .f4) (.seq (.reg (.op (.gp (.build [(.str []), (.int .i64 (.ofNat 0)), (.int .i64 (.ofNat 0))] [(0, 1, (.t 4)), (1, 1, (.c (.int .i64 (.ofNat 2)))), (2, 1, (.c (.int .i64 (.ofNat 0))))])) (.op (.store 3 (.s 0 .f1) (.l 0)) .nil)) [] []) 
.ret) .skip)))) 
(.reg (.op (.ib .add (.s 0 .f0) (.c (.nat 1))) .nil) [(.mk 0 .f0)] [(.l 0)]))))))) 
(.seq (.reg (.op (.gp (.build [(.str []), (.int .i64 (.ofNat 0)), (.int .i64 (.ofNat 0))] [])) (.op (.store 3 (.s 0 .f1) (.l 0)) .nil)) [] []) 
.ret))))) }
theorem g16 : Good Tryd.prog 16 F16 := ⟨1, [], [36, 2, 4, 0, 47, 3, 37, 35, 5, 9, 29, 6, 12, 15, 18, 21], by kernel_rfl⟩
noncomputable def F17 : EFn := { init := (.n (some 0) none none none none none none none .nil), nargs := 1, res := [(.s (.mk 0 .f1))], body := (.seq (.reg .nil [(.mk 0 .f1)] [(.c (.nat 0))]) 
(.seq (.reg (.op (.call 18 [(.s 0 .f0), (.c (.str 1 32))]) .nil) [] []) 
(.seq (.reg (.op (.call 14 [(.s 0 .f0), (.c (.str 6 77263311946305)), (.c (.nat 7))]) .nil) [(.mk 0 .f2)] [(.l 0)]) 
(.seq (.reg (.op (.nck (.s 0 .f0)) (.op (.fad 1 (.l 0)) (.op (.load (.l 0)) (.op (.ib .add (.l 0) (.c (.nat 1))) (.op (.nck (.s 0 .f0)) (.op (.fad 1 (.l 0)) (.op (.store1 (.l 0) (.l 2)) .nil))))))) [] []) 
(.seq (.reg (.op (.ib .sub (.s 0 .f2) (.c (.byt 65))) (.op (.ci .i64 (.l 0)) .nil)) [(.mk 0 .f1)] [(.l 0)]) 
.ret))))) }
theorem g17 : Good Tryd.prog 17 F17 := ⟨1, [], [0, 2, 3], by kernel_rfl⟩
noncomputable def F18 : EFn := { init := (.n (some 0) (some 1) none none none none none none .nil), nargs := 2, res := [], body := (.seq (.reg (.op (.call 14 [(.s 0 .f0), (.s 0 .f1), (.c (.nat 2))]) .nil) [] []) 
(.reg (.op (.nck (.s 0 .f0)) (.op (.fad 1 (.l 0)) (.op (.load (.l 0)) (.op (.ib .add (.l 0) (.c (.nat 1))) (.op (.nck (.s 0 .f0)) (.op (.fad 1 (.l 0)) (.op (.store1 (.l 0) (.l 2)) .nil))))))) [] [])) }
theorem g18 : Good Tryd.prog 18 F18 := ⟨2, [], [0, 1], by kernel_rfl⟩
noncomputable def F20 : EFn := { init := (.n (some 0) none none (some 1) none none none none .nil), nargs := 2, res := [(.s (.mk 0 .f1))], body := (.seq (.reg .nil [(.mk 0 .f1)] [(.c (.bool false))]) 
(.seq (.seq (.reg (.op (.load (.s 0 .f3)) .nil) [(.mk 0 .f2)] [(.l 0)]) 
(.cond (.s 0 .f2) (.seq (.reg (.op (.ib .neq (.s 0 .f0) (.c (.byt 5))) .nil) [(.mk 0 .f1)] [(.l 0)]) 
.ret) .skip)) 
(.seq (.reg (.op (.ib .neq (.s 0 .f0) (.c (.byt 7))) (.gop (.l 0) true (.gp (.mv (.t 0))) (.gop (.l 1) true (.ib .neq (.l 0) (.c (.byt 8))) (.op (.pick (.l 2) (.l 0) (.c (.bool false))) .nil)))) [(.mk 0 .f1)] [(.l 0)]) 
.ret))) }
theorem g20 : Good Tryd.prog 20 F20 := ⟨2, [], [0, 3, 4, 1], by kernel_rfl⟩
noncomputable def F19 : EFn := { init := (.n none none none none none none (some 2) none (.n (some 1) none none none (some 0) none none none (.n none none none none none none none none .nil))), nargs := 3, res := [(.s (.mk 1 .f7))], body := (.seq (.reg .nil [(.mk 1 .f7)] [(.c (.nat 0))]) 
(.seq (.block 0 (.seq (.reg (.op (.lenl (.s 1 .f4)) (.op (.ib .eql (.l 0) (.c (.nat 0))) .nil)) [(.mk 1 .f6)] [(.l 0)]) 
(.cond (.s 1 .f6) (.seq (.reg .nil [(.mk 1 .f7)] [(.c (.nat 3))]) 
.ret) (.seq (.reg (.op (.lenl (.s 1 .f4)) (.op (.ib .gtr (.l 0) (.c (.nat 64))) .nil)) [(.mk 1 .f5)] [(.l 0)]) 
(.cond (.s 1 .f5) (.seq (.reg .nil [(.mk 1 .f7)] [(.c (.nat 4))]) 
.ret) .skip))))) 
(.seq (.reg (.op (.call 27 [(.s 1 .f4)]) .nil) [(.mk 0 .f2)] [(.l 0)]) 
(.seq (.seq (.reg (.op (.lenl (.s 1 .f4)) .nil) [(.mk 0 .f1), (.mk 0 .f5), (.mk 0 .f7)] [(.c (.nat 0)), (.s 1 .f4), (.l 0)]) 
(.block 1 (.loop (.seq (.reg (.op (.ib .lss (.s 0 .f1) (.s 0 .f7)) .nil) [(.mk 0 .f4)] [(.l 0)]) 
(.seq (.cond (.s 0 .f4) .skip (.exit 1)) 
(.seq (.block 2 (.seq (.reg (.op (.iad 5 (.s 0 .f5) (.s 0 .f1)) (.op (.loadn 5 (.l 0)) (.op (.zal [(.byt 0), (.nat 0), (.nat 0), (.nat 0), (.nat 0)] 5) (.op (.store 5 (.l 0) (.l 1)) .nil)))) [(.mk 0 .f0), (.mk 1 .f2)] [(.l 1), (.s 0 .f1)]) 
(.block 3 (.seq (.reg (.op (.fad 0 (.s 0 .f0)) (.op (.load (.l 0)) (.op (.call 16 [(.l 0)]) (.op (.gp (.fld 0 1 false (.t 1))) (.op (.gp (.sbin .eql (.t 1) (.c (.str [])))) (.gop (.l 0) false (.gp (.mv (.t 12))) (.gop (.l 1) false (.fad 0 (.s 0 .f0)) (.gop (.l 2) false (.load (.l 0)) (.gop (.l 3) false (.callv (.l 2) [(.l 0)]) (.gop (.l 4) false (.nt (.l 0)) (.op (.pick (.l 5) (.c (.bool true)) (.l 0)) .nil))))))))))) [(.mk 0 .f3)] [(.l 0)]) 
(.cond (.s 0 .f3) (.seq (.reg .nil [(.mk 1 .f7)] [(.c (.nat 6))]) 
.ret) (.seq (.reg (.op (.loadn 5 (.s 0 .f0)) (.op (.call 28 [(.l 0), (.s 1 .f0)]) (.op (.nt (.l 0)) .nil))) [(.mk 1 .f1)] [(.l 0)]) 
(.cond (.s 1 .f1) (.seq (.reg .nil [(.mk 1 .f7)] [(.c (.nat 7))]) 
.ret) (.seq (.reg (.op (.loadn 5 (.s 0 .f0)) (.op (.call 29 [(.l 0)]) (.op (.nt (.l 0)) (.gop (.l 0) false (.gp (.mv (.t 4))) (.gop (.l 1) false (.gp (.mv (.t 20))) (.gop (.l 2) false (.iad 1 (.l 1) (.l 0)) (.gop (.l 3) false (.load (.l 0)) (.gop (.l 4) false (.ib .eql (.l 0) (.c (.nat 0))) (.op (.pick (.l 5) (.c (.bool true)) (.l 0)) .nil))))))))) [(.mk 1 .f3)] [(.l 0)]) 
(.cond (.s 1 .f3) (.seq (.reg .nil [(.mk 1 .f7)] [(.c (.nat 2))]) 
.ret) .skip))))))))) 
(.reg (.op (.ib .add (.s 0 .f1) (.c (.nat 1))) .nil) [(.mk 0 .f1)] [(.l 0)]))))))) 
(.seq (.seq (.reg (.op (.lenl (.s 1 .f4)) (.op (.ib .sub (.l 0) (.c (.nat 1))) (.op (.iad 1 (.s 0 .f2) (.l 0)) (.op (.load (.l 0)) (.op (.lenl (.s 1 .f4)) (.op (.ib .neq (.l 1) (.l 0)) .nil)))))) [(.mk 2 .f0)] [(.l 0)]) 
(.cond (.s 2 .f0) (.seq (.reg .nil [(.mk 1 .f7)] [(.c (.nat 2))]) 
.ret) .skip)) 
(.seq (.reg .nil [(.mk 1 .f7)] [(.c (.nat 0))]) 
.ret)))))) }
theorem g19 : Good Tryd.prog 19 F19 := ⟨3, [], [9, 22, 7, 27, 23, 20, 2, 21, 1, 40, 8, 45, 0, 14, 10, 6, 65], by kernel_rfl⟩
noncomputable def F21 : EFn := { init := (.n none none none (some 0) none none none none .nil), nargs := 1, res := [(.s (.mk 0 .f2))], body := (.seq (.reg (.op (.box (.s 0 .f3)) .nil) [(.mk 0 .f1), (.mk 0 .f2)] [(.l 0), (.c (.oth .nilSlc))]) 
(.seq (.reg (.op (.mkf 30 [] [(.s 0 .f1)]) .nil) [(.mk 0 .f0)] [(.l 0)]) 
(.seq (.reg (.op (.mkf 33 [] [(.s 0 .f1)]) (.op (.gp (.build [(.int .u8 (.ofNat 0)), .nilFn] [(0, 1, (.c (.int .u8 (.ofNat 9)))), (1, 1, (.t 1))])) (.op (.mkf 35 [] [(.s 0 .f1)]) (.op (.gp (.build [(.int .u8 (.ofNat 0)), .nilFn] [(0, 1, (.c (.int .u8 (.ofNat 10)))), (1, 1, (.t 1))])) (.op (.mkf 38 [] [(.s 0 .f1)]) (.op (.gp (.build [(.int .u8 (.ofNat 0)), .nilFn] [(0, 1, (.c (.int .u8 (.ofNat 11)))), (1, 1, (.t 1))])) (.op (.gp (.build [(.bool false), (.bool false)] [])) (.op (.callv (.s 0 .f0) [(.c (.byt 12)), (.l 0)]) (.op (.gp (.build [(.bool false), (.bool false)] [(0, 1, (.c (.bool true)))])) (.op (.callv (.s 0 .f0) [(.c (.byt 13)), (.l 0)]) (.op (.gp (.build [(.bool false), (.bool false)] [(1, 1, (.c (.bool true)))])) (.op (.callv (.s 0 .f0) [(.c (.byt 14)), (.l 0)]) (.op (.gp (.build [(.bool false), (.bool false)] [(0, 1, (.c (.bool true))), (1, 1, (.c (.bool true)))])) (.op (.callv (.s 0 .f0) [(.c (.byt 15)), (.l 0)]) (.op (.bsl 7 2 [(.int .u8 (.ofNat 0)), .nilFn] [(0, 2, (.l 12)), (2, 2, (.l 10)), (4, 2, (.l 8)), (6, 2, (.l 6)), (8, 2, (.l 4)), (10, 2, (.l 2)), (12, 2, (.l 0))]) .nil))))))))))))))) [(.mk 0 .f2)] [(.l 0)]) 
.ret))) }
theorem g21 : Good Tryd.prog 21 F21 := ⟨1, [], [3, 1, 2, 0], by kernel_rfl⟩
noncomputable def F23 : EFn := { init := (.n none none none none none none none none (.n none none none none (some 1) none none none (.n none none none (some 0) none none none none .nil))), nargs := 2, res := [(.cells (.mk 2 .f2) 4)], body := (.seq (.reg (.op (.box (.s 2 .f3)) (.op (.zal [(.nat 0), (.nat 0), (.oth .nilSlc), (.oth .nilSlc)] 4) .nil)) [(.mk 0 .f1), (.mk 2 .f2)] [(.l 1), (.l 0)]) 
(.seq (.reg (.op (.fad 0 (.s 0 .f1)) (.op (.load (.l 0)) (.op (.call 40 [(.l 0)]) (.op (.ext (.l 0) 0) (.op (.ext (.l 1) 1) .nil))))) [(.mk 1 .f0), (.mk 2 .f4)] [(.l 1), (.l 0)]) 
(.seq (.reg (.op (.mks1 1 (.bool false) (.c (.nat 4)) (.c (.nat 4))) (.op (.gp (.build [(.int .i64 (.ofNat 0)), (.int .i64 (.ofNat 0)), .nilSlc, .nilSlc] [(0, 1, (.t 24)), (3, 1, (.t 1))])) (.op (.zal [(.nat 0), (.nat 0), (.oth .nilSlc), (.oth .nilSlc)] 4) (.op (.store 4 (.l 0) (.l 1)) .nil)))) [(.mk 2 .f0)] [(.l 1)]) 
(.seq (.reg (.op (.fad 3 (.s 2 .f0)) (.op (.load (.l 0)) (.op (.iad 1 (.l 0) (.s 2 .f4)) (.op (.store1 (.l 0) (.c (.bool true))) .nil)))) [] []) 
(.seq (.seq (.reg .nil [(.mk 1 .f7)] [(.c (.nat 0))]) 
(.block 0 (.loop (.seq (.reg (.op (.ib .lss (.s 1 .f7) (.c (.nat 4))) .nil) [(.mk 2 .f1)] [(.l 0)]) 
(.seq (.cond (.s 2 .f1) .skip (.exit 0)) 
(.seq (.block 1 (.seq (.reg .nil [(.mk 0 .f4)] [(.s 1 .f7)]) 
(.seq (.reg (.op (.mks1 24 (.oth .nilSlc) (.c (.nat 4)) (.c (.nat 4))) .nil) [(.mk 0 .f3)] [(.l 0)]) 
(.seq (.seq (.reg (.op (.lenl (.s 0 .f3)) .nil) [(.mk 1 .f3), (.mk 1 .f6)] [(.c (.nat 0)), (.l 0)]) 
(.block 2 (.loop (.seq (.reg (.op (.ib .lss (.s 1 .f3) (.s 1 .f6)) .nil) [(.mk 1 .f5)] [(.l 0)]) 
(.seq (.cond (.s 1 .f5) .skip (.exit 2)) 
(.seq (.block 3 (.seq (.reg .nil [(.mk 0 .f0)] [(.s 1 .f3)]) 
(.seq (.reg (.op (.ib .shl (.c (.nat 1)) (.s 1 .f4)) .nil) [(.mk 0 .f2), (.mk 1 .f2)] [(.c (.nat 0)), (.l 0)]) 
(.block 4 (.loop (.seq (.reg (.op (.ib .lss (.s 0 .f2) (.s 1 .f2)) .nil) [(.mk 0 .f6)] [(.l 0)]) 
(.seq (.cond (.s 0 .f6) .skip (.exit 4)) 
(.seq (.block 5 (.seq (.reg .nil [(.mk 0 .f5)] [(.s 0 .f2)]) 
(.seq (.reg .nil [(.mk 1 .f1)] [(.c (.nat 3))]) 
(.seq (.seq (.reg (.op (.ib .lss (.s 0 .f4) (.c (.nat 3))) (.gop (.l 0) true (.gp (.mv (.t 0))) (.gop (.l 1) true (.ib .lss (.l 0) (.c (.nat 3))) (.op (.pick (.l 2) (.l 0) (.c (.bool false))) (.gop (.l 0) false (.fad 0 (.s 0 .f1)) (.gop (.l 1) false (.load (.l 0)) (.gop (.l 2) false (.ib .eql (.l 0) (.c (.byt 1))) (.op (.pick (.l 3) (.c (.bool true)) (.l 0)) .nil)))))))) [(.mk 0 .f7)] [(.l 0)]) 
(.cond (.s 0 .f7) (.regD (.op none (.fad 1 (.s 0 .f1)) (.op none (.fad 2 (.s 0 .f1)) (.op none (.load (.l 1)) (.op none (.ib .shr (.s 0 .f5) (.l 0)) (.op none (.ib .and (.l 0) (.c (.nat 1))) (.op none (.load (.l 3)) (.op none (.ib .shr (.s 0 .f5) (.l 0)) (.op none (.ib .and (.l 0) (.c (.nat 1))) (.nil (.op none none [] (.callv (.s 1 .f0) [(.s 0 .f4), (.s 0 .f0), (.l 3), (.l 0)]) .nil)))))))))) 0 [(.mk 1 .f1)] [(.l 0)]) .skip)) 
(.reg (.op (.iad 1 (.s 0 .f3) (.s 0 .f0)) (.op (.load (.l 0)) (.op (.bsv 1 1 [(.s 1 .f1)]) (.op (.app 1 8 (.l 1) (.l 0)) (.op (.iad 1 (.s 0 .f3) (.s 0 .f0)) (.op (.store1 (.l 0) (.l 1)) .nil)))))) [] []))))) 
(.reg (.op (.ib .add (.s 0 .f2) (.c (.nat 1))) .nil) [(.mk 0 .f2)] [(.l 0)]))))))))) 
(.reg (.op (.ib .add (.s 1 .f3) (.c (.nat 1))) .nil) [(.mk 1 .f3)] [(.l 0)]))))))) 
(.reg (.op (.fad 2 (.s 2 .f0)) (.op (.load (.l 0)) (.op (.bsv 1 1 [(.s 0 .f3)]) (.op (.app 1 24 (.l 1) (.l 0)) (.op (.fad 2 (.s 2 .f0)) (.op (.store1 (.l 0) (.l 1)) .nil)))))) [] []))))) 
(.reg (.op (.ib .add (.s 1 .f7) (.c (.nat 1))) .nil) [(.mk 1 .f7)] [(.l 0)]))))))) 
(.seq (.reg (.op (.loadn 4 (.s 2 .f0)) (.op (.call 41 [(.l 0)]) (.op (.ext (.l 0) 0) (.op (.ext (.l 1) 1) (.op (.zal [(.nat 0), (.nat 0), (.oth .nilSlc), (.oth .nilSlc)] 4) (.op (.store 4 (.l 0) (.l 2)) .nil)))))) [(.mk 2 .f5)] [(.l 1)]) 
(.seq (.reg (.op (.loadn 4 (.s 2 .f5)) (.op (.store 4 (.s 2 .f2) (.l 0)) .nil)) [] []) 
.ret))))))) }
theorem g23 : Good Tryd.prog 23 F23 := ⟨2, [(16, [(0, false), (1, false), (2, false), (3, false), (4, false), (8, false), (9, false), (5, false), (6, false), (7, false), (10, false), (11, false), (12, false), (13, false), (14, false)])], [10, 2, 39, 9, 8, 11, 40, 52, 5, 12, 38, 34, 1, 35, 33, 28, 7, 29, 4, 0, 6, 13], by kernel_rfl⟩
noncomputable def F22 : EFn := { init := (.n (some 0) none (some 1) none (some 2) none none none .nil), nargs := 3, res := [], body := (.seq (.reg (.op (.box (.s 0 .f2)) .nil) [(.mk 0 .f1)] [(.l 0)]) 
(.seq (.reg (.op (.nck (.s 0 .f0)) (.op (.fad 3 (.l 0)) (.op (.load (.l 0)) (.op (.ib .eql (.l 0) (.c (.nat 0))) .nil)))) [(.mk 0 .f3)] [(.l 0)]) 
(.cond (.s 0 .f3) (.seq (.reg (.op (.nck (.s 0 .f0)) (.op (.fad 3 (.l 0)) (.op (.store1 (.l 0) (.s 0 .f4)) .nil))) [] []) 
(.regD (.op none (.nck (.s 0 .f0)) (.op none (.fad 2 (.l 0)) (.op none (.load (.l 0)) (.op none (.loadn 4 (.s 0 .f1)) (.nil (.op none (some 0) [] (.bsl 1 4 [(.int .i64 (.ofNat 0)), (.int .i64 (.ofNat 0)), .nilSlc, .nilSlc] [(0, 4, (.l 0))]) (.op none (some 1) [] (.app 4 64 (.l 2) (.l 0)) (.op none none [] (.nck (.s 0 .f0)) (.op none none [] (.fad 2 (.l 0)) (.op none none [] (.store1 (.l 0) (.l 2)) .nil)))))))))) 2 [] [])) .skip))) }
theorem g22 : Good Tryd.prog 22 F22 := ⟨3, [(3, [(0, false), (1, false), (2, false), (3, false), (4, false), (5, false), (6, false), (7, false), (8, false), (9, false), (10, false)])], [0, 4, 1, 10, 2], by kernel_rfl⟩
noncomputable def F24 : EFn := { init := (.n (some 0) none (some 1) none none none none none .nil), nargs := 2, res := [(.s (.mk 0 .f1))], body := (.seq (.reg .nil [(.mk 0 .f1)] [(.c (.bool false))]) 
(.seq (.reg (.op (.ib .geq (.s 0 .f0) (.c (.nat 0))) (.gop (.l 0) true (.gp (.mv (.t 0))) (.gop (.l 1) true (.load (.s 0 .f2)) (.gop (.l 2) true (.ib .lss (.l 1) (.l 0)) (.op (.pick (.l 3) (.l 0) (.c (.bool false))) .nil))))) [(.mk 0 .f1)] [(.l 0)]) 
.ret)) }
theorem g24 : Good Tryd.prog 24 F24 := ⟨2, [], [0, 3, 1], by kernel_rfl⟩
noncomputable def F25 : EFn := { init := (.n none (some 0) (some 1) none none none none none .nil), nargs := 2, res := [(.s (.mk 0 .f0))], body := (.seq (.reg .nil [(.mk 0 .f0)] [(.c (.nat 0))]) 
(.seq (.reg (.op (.call 42 [(.s 0 .f1), (.s 0 .f2)]) .nil) [(.mk 0 .f0)] [(.l 0)]) 
.ret)) }
theorem g25 : Good Tryd.prog 25 F25 := ⟨2, [], [4, 0, 1], by kernel_rfl⟩
noncomputable def F26 : EFn := { init := (.n (some 1) (some 0) none none none none none none .nil), nargs := 2, res := [(.s (.mk 0 .f2))], body := (.seq (.reg .nil [(.mk 0 .f2)] [(.c (.str 0 0))]) 
(.seq (.seq (.reg (.op (.gp (.sbin .eql (.t 2) (.c (.str [])))) (.gop (.l 0) false (.gp (.mv (.t 0))) (.gop (.l 1) false (.gp (.sbin .eql (.t 1) (.c (.str [])))) (.op (.pick (.l 2) (.c (.bool true)) (.l 0)) .nil)))) [(.mk 0 .f3)] [(.l 0)]) 
(.cond (.s 0 .f3) (.seq (.reg .nil [(.mk 0 .f2)] [(.s 0 .f1)]) 
.ret) .skip)) 
(.seq (.seq (.reg (.op (.lens (.s 0 .f0)) (.op (.ib .eql (.l 0) (.c (.nat 1))) (.gop (.l 0) true (.gp (.mv (.t 0))) (.gop (.l 1) true (.ixs (.l 0) (.c (.nat 0))) (.gop (.l 2) true (.ib .lss (.l 0) (.c (.byt 128))) (.op (.pick (.l 3) (.l 0) (.c (.bool false))) .nil)))))) [(.mk 0 .f4)] [(.l 0)]) 
(.cond (.s 0 .f4) (.seq (.reg (.op (.ixs (.s 0 .f0) (.c (.nat 0))) (.op (.call 43 [(.s 0 .f1), (.l 0)]) .nil)) [(.mk 0 .f2)] [(.l 0)]) 
.ret) .skip)) 
(.seq (.seq (.reg (.op (.call 44 [(.s 0 .f0)]) (.op (.ext (.l 0) 0) (.op (.ext (.l 1) 1) (.op (.zal [(.bool false), (.bool false), (.bool false), (.bool false), (.bool false), (.bool false), (.bool false), (.bool false), (.bool false), (.bool false), (.bool false), (.bool false), (.bool false), (.bool false), (.bool false), (.bool false), (.bool false), (.bool false), (.bool false), (.bool false), (.bool false), (.bool false), (.bool false), (.bool false), (.bool false), (.bool false), (.bool false), (.bool false), (.bool false), (.bool false), (.bool false), (.bool false), (.bool false), (.bool false), (.bool false), (.bool false), (.bool false), (.bool false), (.bool false), (.bool false), (.bool false), (.bool false), (.bool false), (.bool false), (.bool false), (.bool false), (.bool false), (.bool false), (.bool false), (.bool false), (.bool false), (.bool false), (.bool false), (.bool false), (.bool false), (.bool false), (.bool false), (.bool false), (.bool false), (.bool false), (.bool false), (.bool false), (.bool false), (.bool false), (.bool false), (.bool false), (.bool false), (.bool false), (.bool false), (.bool false), (.bool false), (.bool false), (.bool false), (.bool false), (.bool false), (.bool false), (.bool false), (.bool false), (.bool false), (.bool false), (.bool false), (.bool false), (.bool false), (.bool false), (.bool false), (.bool false), (.bool false), (.bool false), (.bool false), (.bool false), (.bool false), (.bool false), (.bool false), (.bool false), (.bool false), (.bool false), (.bool false), (.bool false), (.bool false), (.bool false), (.bool false), (.bool false), (.bool false), (.bool false), (.bool false), (.bool false), (.bool false), (.bool false), (.bool false), (.bool false), (.bool false), (.bool false), (.bool false), (.bool false), (.bool false), (.bool false), (.bool false), (.bool false), (.bool false), (.bool false), (.bool false), (.bool false), (.bool false), (.bool false), (.bool false), (.bool false), (.bool false), (.bool false), (.bool false), (.bool false), (.bool false), (.bool false), (.bool false), (.bool false), (.bool false), (.bool false), (.bool false), (.bool false), (.bool false), (.bool false), (.bool false), (.bool false), (.bool false), (.bool false), (.bool false), (.bool false), (.bool false), (.bool false), (.bool false), (.bool false), (.bool false), (.bool false), (.bool false), (.bool false), (.bool false), (.bool false), (.bool false), (.bool false), (.bool false), (.bool false), (.bool false), (.bool false), (.bool false), (.bool false), (.bool false), (.bool false), (.bool false), (.bool false), (.bool false), (.bool false), (.bool false), (.bool false), (.bool false), (.bool false), (.bool false), (.bool false), (.bool false), (.bool false), (.bool false), (.bool false), (.bool false), (.bool false), (.bool false), (.bool false), (.bool false), (.bool false), (.bool false), (.bool false), (.bool false), (.bool false), (.bool false), (.bool false), (.bool false), (.bool false), (.bool false), (.bool false), (.bool false), (.bool false), (.bool false), (.bool false), (.bool false), (.bool false), (.bool false), (.bool false), (.bool false), (.bool false), (.bool false), (.bool false), (.bool false), (.bool false), (.bool false), (.bool false), (.bool false), (.bool false), (.bool false), (.bool false), (.bool false), (.bool false), (.bool false), (.bool false), (.bool false), (.bool false), (.bool false), (.bool false), (.bool false), (.bool false), (.bool false), (.bool false), (.bool false), (.bool false), (.bool false), (.bool false), (.bool false), (.bool false), (.bool false), (.bool false), (.bool false), (.bool false), (.bool false), (.bool false), (.bool false), (.bool false), (.bool false), (.bool false), (.bool false), (.bool false), (.bool false), (.bool false), (.bool false), (.bool false), (.bool false), (.bool false), (.bool false), (.bool false), (.bool false), (.bool false)] 256) (.op (.store 256 (.l 0) (.l 2)) .nil))))) [(.mk 0 .f5), (.mk 0 .f7)] [(.l 2), (.l 1)]) 
(.seq (.reg .nil [(.mk 0 .f6)] [(.s 0 .f5)]) 
(.cond (.s 0 .f6) (.seq (.reg (.op (.call 45 [(.s 0 .f1), (.s 0 .f7)]) .nil) [(.mk 0 .f2)] [(.l 0)]) 
.ret) .skip))) 
(.seq (.reg (.op (.call 46 [(.s 0 .f1), (.s 0 .f0)]) .nil) [(.mk 0 .f2)] [(.l 0)]) 
.ret))))) }
theorem g26 : Good Tryd.prog 26 F26 := ⟨2, [], [1, 0, 4, 12, 21, 6, 31, 5], by kernel_rfl⟩
noncomputable def F27 : EFn := { init := (.n none none none none none none none none (.n none none none none none none none (some 0) (.n none none none none none none none none .nil))), nargs := 1, res := [(.s (.mk 2 .f0))], body := (.seq (.reg .nil [(.mk 2 .f0)] [(.c (.oth .nilSlc))]) 
(.seq (.reg (.op (.lenl (.s 1 .f7)) (.op (.mks1 8 (.nat 0) (.l 0) (.l 0)) .nil)) [(.mk 0 .f1)] [(.l 0)]) 
(.seq (.seq (.reg (.op (.lenl (.s 1 .f7)) .nil) [(.mk 1 .f1), (.mk 1 .f3), (.mk 1 .f4)] [(.c (.nat 0)), (.l 0), (.s 1 .f7)]) 
(.block 0 (.loop (.seq (.reg (.op (.ib .lss (.s 1 .f1) (.s 1 .f3)) .nil) [(.mk 1 .f5)] [(.l 0)]) 
(.seq (.cond (.s 1 .f5) .skip (.exit 0)) 
(.seq (.block 1 (.seq (.reg (.op (.iad 5 (.s 1 .f4) (.s 1 .f1)) (.op (.loadn 5 (.l 0)) (.op (.zal [(.byt 0), (.nat 0), (.nat 0), (.nat 0), (.nat 0)] 5) (.op (.store 5 (.l 0) (.l 1)) .nil)))) [(.mk 1 .f0), (.mk 1 .f2)] [(.l 1), (.s 1 .f1)]) 
(.seq (.reg (.op (.fad 0 (.s 1 .f0)) (.op (.load (.l 0)) (.op (.fad 1 (.s 1 .f0)) (.op (.load (.l 0)) (.op (.fad 2 (.s 1 .f0)) (.op (.load (.l 0)) (.op (.gp (.build [(.int .u8 (.ofNat 0)), (.int .i64 (.ofNat 0)), (.int .i64 (.ofNat 0)), (.int .i64 (.ofNat 0)), (.int .i64 (.ofNat 0))] [(0, 1, (.t 9)), (1, 1, (.t 5)), (2, 1, (.t 1))])) (.op (.zal [(.byt 0), (.nat 0), (.nat 0), (.nat 0), (.nat 0)] 5) (.op (.store 5 (.l 0) (.l 1)) .nil))))))))) [(.mk 0 .f2)] [(.l 1)]) 
(.seq (.reg .nil [(.mk 0 .f0), (.mk 0 .f4)] [(.s 1 .f2), (.c (.nat 1))]) 
(.seq (.seq (.reg (.op (.fad 0 (.s 1 .f0)) (.op (.load (.l 0)) (.op (.call 16 [(.l 0)]) (.op (.gp (.fld 2 1 false (.t 1))) .nil)))) [(.mk 0 .f3), (.mk 0 .f5)] [(.c (.nat 0)), (.l 0)]) 
(.block 2 (.loop (.seq (.reg (.op (.ib .lss (.s 0 .f3) (.s 0 .f5)) .nil) [(.mk 0 .f7)] [(.l 0)]) 
(.seq (.cond (.s 0 .f7) .skip (.exit 2)) 
(.seq (.block 3 (.seq (.seq (.reg (.op (.ib .eql (.s 0 .f0) (.c (.nat 0))) (.gop (.l 0) false (.gp (.mv (.t 2))) (.gop (.l 1) false (.gp (.mv (.t 0))) (.gop (.l 2) false (.ib .sub (.l 0) (.c (.nat 1))) (.gop (.l 3) false (.iad 1 (.l 2) (.l 0)) (.gop (.l 4) false (.load (.l 0)) (.gop (.l 5) false (.ib .eql (.l 0) (.c (.nat 0))) (.op (.pick (.l 6) (.c (.bool true)) (.l 0)) .nil)))))))) [(.mk 0 .f6)] [(.l 0)]) 
(.cond (.s 0 .f6) (.seq (.reg .nil [(.mk 0 .f4)] [(.c (.nat 0))]) 
(.exit 2)) .skip)) 
(.seq (.reg (.op (.ib .sub (.s 0 .f0) (.c (.nat 1))) (.op (.fad 3 (.s 0 .f2)) (.op (.load (.l 0)) (.op (.fad 3 (.s 0 .f2)) (.op (.store1 (.l 0) (.l 3)) (.op (.fad 4 (.s 0 .f2)) (.op (.store1 (.l 0) (.l 3)) .nil))))))) [] []) 
(.seq (.reg (.op (.ib .sub (.s 0 .f0) (.c (.nat 1))) (.op (.iad 1 (.s 0 .f1) (.l 0)) (.op (.load (.l 0)) (.op (.ib .add (.s 0 .f4) (.l 0)) .nil)))) [(.mk 0 .f4)] [(.l 0)]) 
(.reg (.op (.ib .sub (.s 0 .f0) (.c (.nat 1))) (.op (.iad 1 (.s 0 .f1) (.l 0)) (.op (.load (.l 0)) (.op (.ib .sub (.s 0 .f0) (.l 0)) .nil)))) [(.mk 0 .f0)] [(.l 0)]))))) 
(.reg (.op (.ib .add (.s 0 .f3) (.c (.nat 1))) .nil) [(.mk 0 .f3)] [(.l 0)]))))))) 
(.seq (.reg (.op (.ib .gtr (.s 0 .f4) (.c (.nat 0))) (.gop (.l 0) true (.loadn 5 (.s 1 .f0)) (.gop (.l 1) true (.loadn 5 (.s 0 .f2)) (.gop (.l 2) true (.eq 0 0 (.st [(0, 1, false, .int), (1, 1, false, .int), (2, 1, false, .int), (3, 1, false, .int), (4, 1, false, .int)]) false (.l 1) (.l 0)) (.op (.pick (.l 3) (.l 0) (.c (.bool false))) .nil))))) [(.mk 1 .f6)] [(.l 0)]) 
(.cond (.s 1 .f6) (.reg (.op (.iad 1 (.s 0 .f1) (.s 1 .f2)) (.op (.store1 (.l 0) (.s 0 .f4)) .nil)) [] []) .skip))))))) 
(.reg (.op (.ib .add (.s 1 .f1) (.c (.nat 1))) .nil) [(.mk 1 .f1)] [(.l 0)]))))))) 
(.seq (.reg .nil [(.mk 2 .f0)] [(.s 0 .f1)]) 
.ret)))) }
theorem g27 : Good Tryd.prog 27 F27 := ⟨1, [], [8, 3, 6, 31, 7, 30, 42, 32, 5, 14, 4, 13, 12, 15, 70, 0, 2], by kernel_rfl⟩
noncomputable def F28 : EFn := { init := (.n none none (some 1) none (some 0) none none none .nil), nargs := 2, res := [(.s (.mk 0 .f3))], body := (.seq (.reg (.op (.box (.s 0 .f4)) .nil) [(.mk 0 .f0), (.mk 0 .f3)] [(.l 0), (.c (.bool false))]) 
(.seq (.reg (.op (.fad 0 (.s 0 .f0)) (.op (.load (.l 0)) (.op (.call 16 [(.l 0)]) (.op (.gp (.fld 1 1 false (.t 1))) .nil)))) [(.mk 0 .f1)] [(.l 0)]) 
(.seq (.reg (.op (.ib .lss (.s 0 .f1) (.c (.nat 1))) (.gop (.l 0) false (.fad 1 (.s 0 .f0)) (.gop (.l 1) false (.load (.l 0)) (.gop (.l 2) false (.ib .geq (.l 0) (.c (.nat 0))) (.gop (.l 3) false (.gp (.mv (.t 1))) (.gop (.l 0) true (.fad 1 (.s 0 .f0)) (.gop (.l 1) true (.load (.l 0)) (.gop (.l 2) true (.gp (.mv (.t 4))) (.gop (.l 3) true (.ib .lss (.l 1) (.l 0)) (.gop (.l 8) false (.pick (.l 4) (.l 0) (.c (.bool false))) (.op (.pick (.l 9) (.c (.bool true)) (.l 0)) (.gop (.l 0) true (.gp (.mv (.t 2))) (.gop (.l 1) true (.ib .lss (.l 0) (.c (.nat 2))) (.gop (.l 2) true (.gp (.mv (.t 1))) (.gop (.l 0) false (.fad 2 (.s 0 .f0)) (.gop (.l 1) false (.load (.l 0)) (.gop (.l 2) false (.ib .geq (.l 0) (.c (.nat 0))) (.gop (.l 3) false (.gp (.mv (.t 1))) (.gop (.l 0) true (.fad 2 (.s 0 .f0)) (.gop (.l 1) true (.load (.l 0)) (.gop (.l 2) true (.gp (.mv (.t 4))) (.gop (.l 3) true (.ib .lss (.l 1) (.l 0)) (.gop (.l 8) false (.pick (.l 4) (.l 0) (.c (.bool false))) (.gop (.l 12) true (.pick (.l 9) (.c (.bool true)) (.l 0)) (.op (.pick (.l 13) (.l 0) (.c (.bool false))) .nil))))))))))))))))))))))))) [(.mk 0 .f3)] [(.l 0)]) 
.ret))) }
theorem g28 : Good Tryd.prog 28 F28 := ⟨2, [], [2, 5, 1, 4, 0], by kernel_rfl⟩
noncomputable def F29 : EFn := { init := (.n none none none (some 0) none none none none .nil), nargs := 1, res := [(.s (.mk 0 .f2))], body := (.seq (.reg (.op (.box (.s 0 .f3)) .nil) [(.mk 0 .f0), (.mk 0 .f2)] [(.l 0), (.c (.bool false))]) 
(.seq (.reg (.op (.fad 0 (.s 0 .f0)) (.op (.load (.l 0)) (.op (.call 16 [(.l 0)]) (.op (.gp (.fld 1 1 false (.t 1))) .nil)))) [(.mk 0 .f1)] [(.l 0)]) 
(.seq (.reg (.op (.ib .gtr (.s 0 .f1) (.c (.nat 0))) (.gop (.l 0) false (.fad 1 (.s 0 .f0)) (.gop (.l 1) false (.load (.l 0)) (.gop (.l 2) false (.ib .eql (.l 0) (.c (.nat 0))) (.op (.pick (.l 3) (.c (.bool true)) (.l 0)) (.gop (.l 0) true (.gp (.mv (.t 2))) (.gop (.l 1) true (.ib .gtr (.l 0) (.c (.nat 1))) (.gop (.l 2) true (.gp (.mv (.t 1))) (.gop (.l 0) false (.fad 2 (.s 0 .f0)) (.gop (.l 1) false (.load (.l 0)) (.gop (.l 2) false (.ib .eql (.l 0) (.c (.nat 0))) (.gop (.l 6) true (.pick (.l 3) (.c (.bool true)) (.l 0)) (.op (.pick (.l 7) (.l 0) (.c (.bool false))) .nil))))))))))))) [(.mk 0 .f2)] [(.l 0)]) 
.ret))) }
theorem g29 : Good Tryd.prog 29 F29 := ⟨1, [], [1, 3, 2, 0], by kernel_rfl⟩
noncomputable def F30 : EFn := { init := (.n none (some 1) (some 0) (some 2) none none none none .nil), nargs := 3, res := [(.cells (.mk 0 .f0) 2)], body := (.seq (.reg (.op (.box (.s 0 .f1)) (.op (.zal [(.byt 0), (.oth .nilFn)] 2) .nil)) [(.mk 0 .f0), (.mk 0 .f4)] [(.l 0), (.l 1)]) 
(.seq (.reg (.op (.mkf 31 [] [(.s 0 .f3), (.s 0 .f4)]) (.op (.gp (.build [(.int .u8 (.ofNat 0)), .nilFn] [(0, 1, (.t 4)), (1, 1, (.t 1))])) (.op (.store 2 (.s 0 .f0) (.l 0)) .nil))) [] []) 
.ret)) }
theorem g30 : Good Tryd.prog 30 F30 := ⟨3, [], [5, 1, 0, 2, 4], by kernel_rfl⟩
noncomputable def F33 : EFn := { init := (.n (some 1) (some 0) none none none none none none .nil), nargs := 2, res := [], body := (.seq (.reg (.op (.box (.s 0 .f1)) .nil) [] []) 
(.reg (.op (.load (.s 0 .f0)) (.op (.call 34 [(.l 0)]) .nil)) [] [])) }
theorem g33 : Good Tryd.prog 33 F33 := ⟨2, [], [1, 0], by kernel_rfl⟩
noncomputable def F35 : EFn := { init := (.n (some 1) (some 0) none none none none none none .nil), nargs := 2, res := [], body := (.seq (.reg (.op (.box (.s 0 .f1)) .nil) [] []) 
(.reg (.op (.load (.s 0 .f0)) (.op (.call 36 [(.l 0), (.c (.fn 37 [] []))]) .nil)) [] [])) }
theorem g35 : Good Tryd.prog 35 F35 := ⟨2, [], [1, 0], by kernel_rfl⟩
noncomputable def F38 : EFn := { init := (.n (some 1) (some 0) none none none none none none .nil), nargs := 2, res := [], body := (.seq (.reg (.op (.box (.s 0 .f1)) .nil) [] []) 
(.reg (.op (.load (.s 0 .f0)) (.op (.call 36 [(.l 0), (.c (.fn 39 [] []))]) .nil)) [] [])) }
theorem g38 : Good Tryd.prog 38 F38 := ⟨2, [], [1, 0], by kernel_rfl⟩
noncomputable def F40 : EFn := { init := (.n none none (some 0) none none none none none (.n none none none none none none none none .nil)), nargs := 1, res := [(.s (.mk 1 .f1)), (.s (.mk 0 .f1))], body := (.seq (.reg .nil [(.mk 0 .f1), (.mk 1 .f1)] [(.c (.nat 0)), (.c (.oth .nilFn))]) 
(.seq (.seq (.reg .nil [(.mk 0 .f0)] [(.s 0 .f2)]) 
(.block 0 (.seq (.reg (.op (.ib .eql (.s 0 .f0) (.c (.byt 2))) .nil) [(.mk 0 .f3)] [(.l 0)]) 
(.cond (.s 0 .f3) (.seq (.reg .nil [(.mk 0 .f1), (.mk 1 .f1)] [(.c (.nat 0)), (.c (.fn 52 [] []))]) 
.ret) (.seq (.reg (.op (.ib .eql (.s 0 .f0) (.c (.byt 3))) .nil) [(.mk 0 .f4)] [(.l 0)]) 
(.cond (.s 0 .f4) (.seq (.reg .nil [(.mk 0 .f1), (.mk 1 .f1)] [(.c (.nat 0)), (.c (.fn 53 [] []))]) 
.ret) (.seq (.reg (.op (.ib .eql (.s 0 .f0) (.c (.byt 4))) .nil) [(.mk 0 .f5)] [(.l 0)]) 
(.cond (.s 0 .f5) (.seq (.reg .nil [(.mk 0 .f1), (.mk 1 .f1)] [(.c (.nat 1)), (.c (.fn 54 [] []))]) 
.ret) (.seq (.reg (.op (.ib .eql (.s 0 .f0) (.c (.byt 6))) .nil) [(.mk 0 .f6)] [(.l 0)]) 
(.cond (.s 0 .f6) (.seq (.reg (.op (.call 56 [(.c (.bool true)), (.c (.fn 57 [] []))]) .nil) [(.mk 0 .f1), (.mk 1 .f1)] [(.c (.nat 2)), (.l 0)]) 
.ret) (.seq (.reg (.op (.ib .eql (.s 0 .f0) (.c (.byt 7))) .nil) [(.mk 0 .f7)] [(.l 0)]) 
(.cond (.s 0 .f7) (.seq (.reg (.op (.call 56 [(.c (.bool false)), (.c (.fn 58 [] []))]) .nil) [(.mk 0 .f1), (.mk 1 .f1)] [(.c (.nat 2)), (.l 0)]) 
.ret) (.seq (.reg (.op (.ib .eql (.s 0 .f0) (.c (.byt 8))) .nil) [(.mk 1 .f0)] [(.l 0)]) 
(.cond (.s 1 .f0) (.seq (.reg (.op (.call 56 [(.c (.bool false)), (.c (.fn 59 [] []))]) .nil) [(.mk 0 .f1), (.mk 1 .f1)] [(.c (.nat 2)), (.l 0)]) 
.ret) .skip)))))))))))))) 
(.seq (.reg .nil [(.mk 0 .f1), (.mk 1 .f1)] [(.c (.nat 0)), (.c (.fn 60 [] []))]) 
.ret))) }
theorem g40 : Good Tryd.prog 40 F40 := ⟨1, [], [4, 3, 0, 5, 7, 9, 11, 14, 17, 2], by kernel_rfl⟩
noncomputable def F41 : EFn := { init := (.n none none none none none none none none (.n none none none (some 0) none none none none .nil)), nargs := 1, res := [(.cells (.mk 0 .f5) 4), (.s (.mk 1 .f2))], body := (.seq (.reg (.op (.box (.s 1 .f3)) (.op (.zal [(.nat 0), (.nat 0), (.oth .nilSlc), (.oth .nilSlc)] 4) .nil)) [(.mk 0 .f5), (.mk 0 .f7), (.mk 1 .f2)] [(.l 0), (.l 1), (.c (.nat 0))]) 
(.seq (.seq (.reg (.op (.loadn 4 (.s 0 .f7)) (.op (.call 13 [(.l 0)]) .nil)) [(.mk 1 .f0)] [(.l 0)]) 
(.seq (.reg (.op (.ib .neq (.s 1 .f0) (.c (.nat 0))) .nil) [(.mk 1 .f4)] [(.l 0)]) 
(.cond (.s 1 .f4) (.seq (.reg (.op (.gp (.build [(.int .i64 (.ofNat 0)), (.int .i64 (.ofNat 0)), .nilSlc, .nilSlc] [])) (.op (.store 4 (.s 0 .f5) (.l 0)) .nil)) [(.mk 1 .f2)] [(.s 1 .f0)]) 
.ret) .skip))) 
(.seq (.reg (.op (.loadn 4 (.s 0 .f7)) (.op (.call 61 [(.l 0)]) (.op (.zal [(.nat 0), (.nat 0), (.oth .nilSlc), (.oth .nilSlc)] 4) (.op (.store 4 (.l 0) (.l 1)) .nil)))) [(.mk 0 .f4)] [(.l 1)]) 
(.seq (.reg (.op (.loadn 4 (.s 0 .f4)) (.op (.call 62 [(.l 0)]) (.op (.ext (.l 0) 0) (.op (.ext (.l 1) 1) (.op (.zal [(.oth .nilSlc)] 1) (.op (.store1 (.l 0) (.l 2)) .nil)))))) [(.mk 0 .f1), (.mk 0 .f6)] [(.l 1), (.l 2)]) 
(.seq (.reg (.op (.mks1 8 (.nat 0) (.s 0 .f6) (.s 0 .f6)) (.op (.zal [(.oth .nilSlc)] 1) (.op (.store1 (.l 0) (.l 1)) .nil))) [(.mk 0 .f2)] [(.l 1)]) 
(.seq (.seq (.reg (.op (.load (.s 0 .f1)) (.op (.lenl (.l 0)) (.op (.ib .sub (.l 0) (.c (.nat 1))) .nil))) [(.mk 0 .f0)] [(.l 0)]) 
(.block 0 (.loop (.seq (.seq (.reg (.op (.ib .geq (.s 0 .f0) (.c (.nat 0))) .nil) [(.mk 0 .f3)] [(.l 0)]) 
(.cond (.s 0 .f3) .skip (.exit 0))) 
(.seq (.block 1 (.regD (.op none (.load (.s 0 .f2)) (.op none (.load (.s 0 .f1)) (.op none (.iad 1 (.l 0) (.s 0 .f0)) (.op none (.load (.l 0)) (.op none (.iad 1 (.l 3) (.l 0)) (.nil (.op none none [] (.store1 (.l 0) (.s 0 .f0)) .nil))))))) 0 [] [])) 
(.reg (.op (.ib .sub (.s 0 .f0) (.c (.nat 1))) .nil) [(.mk 0 .f0)] [(.l 0)])))))) 
(.seq (.reg (.op (.fad 0 (.s 0 .f4)) (.op (.load (.l 0)) (.op (.mkf 64 [] [(.s 0 .f1), (.s 0 .f4), (.s 0 .f2)]) (.op (.mkf 65 [] [(.s 0 .f4), (.s 0 .f2)]) (.op (.call 63 [(.l 2), (.s 0 .f6), (.l 1), (.l 0)]) (.op (.zal [(.nat 0), (.nat 0), (.oth .nilSlc), (.oth .nilSlc)] 4) (.op (.store 4 (.l 0) (.l 1)) .nil))))))) [(.mk 1 .f1)] [(.l 1)]) 
(.seq (.reg (.op (.load (.s 0 .f1)) (.op (.fad 1 (.s 0 .f4)) (.op (.load (.l 0)) (.op (.iad 1 (.l 2) (.l 0)) (.op (.load (.l 0)) (.op (.fad 1 (.s 1 .f1)) (.op (.store1 (.l 0) (.l 1)) .nil))))))) [] []) 
(.seq (.reg (.op (.loadn 4 (.s 1 .f1)) (.op (.call 61 [(.l 0)]) (.op (.store 4 (.s 0 .f5) (.l 0)) .nil))) [(.mk 1 .f2)] [(.c (.nat 0))]) 
.ret))))))))) }
theorem g41 : Good Tryd.prog 41 F41 := ⟨1, [(10, [(2, false), (5, false), (0, false), (1, false), (3, false), (4, false), (6, false), (7, false)])], [9, 6, 8, 30, 5, 2, 7, 1, 4, 10, 3, 0, 14], by kernel_rfl⟩
noncomputable def F42 : EFn := { init := (.n none (some 0) (some 1) none none none none none .nil), nargs := 2, res := [(.s (.mk 0 .f0))], body := (.seq (.reg .nil [(.mk 0 .f0)] [(.c (.nat 0))]) 
(.seq (.reg (.op (.call 66 [(.s 0 .f1), (.s 0 .f2)]) .nil) [(.mk 0 .f0)] [(.l 0)]) 
.ret)) }
theorem g42 : Good Tryd.prog 42 F42 := ⟨2, [], [4, 0, 1], by kernel_rfl⟩
noncomputable def F43 : EFn := { init := (.n (some 0) (some 1) none none none none none none .nil), nargs := 2, res := [(.s (.mk 0 .f3))], body := (.seq (.reg .nil [(.mk 0 .f3)] [(.c (.str 0 0))]) 
(.seq (.block 0 (.loop (.seq (.seq (.reg (.op (.lens (.s 0 .f0)) (.op (.ib .gtr (.l 0) (.c (.nat 0))) (.gop (.l 0) true (.gp (.mv (.t 0))) (.gop (.l 1) true (.ixs (.l 0) (.c (.nat 0))) (.gop (.l 2) true (.gp (.mv (.t 2))) (.gop (.l 3) true (.ib .eql (.l 1) (.l 0)) (.op (.pick (.l 4) (.l 0) (.c (.bool false))) .nil))))))) [(.mk 0 .f2)] [(.l 0)]) 
(.cond (.s 0 .f2) .skip (.exit 0))) 
(.block 1 (.reg (.op (.gp (.sls (some (.c (.int .i64 (.ofNat 1)))) none (.t 0))) .nil) [(.mk 0 .f0)] [(.l 0)]))))) 
(.seq (.reg .nil [(.mk 0 .f3)] [(.s 0 .f0)]) 
.ret))) }
theorem g43 : Good Tryd.prog 43 F43 := ⟨2, [], [0, 1, 13, 4], by kernel_rfl⟩
noncomputable def F44 : EFn := { init := (.n none none none (some 0) none none none none .nil), nargs := 1, res := [(.cells (.mk 0 .f0) 256), (.s (.mk 0 .f6))], body := (.seq (.reg (.op (.zal [(.bool false), (.bool false), (.bool false), (.bool false), (.bool false), (.bool false), (.bool false), (.bool false), (.bool false), (.bool false), (.bool false), (.bool false), (.bool false), (.bool false), (.bool false), (.bool false), (.bool false), (.bool false), (.bool false), (.bool false), (.bool false), (.bool false), (.bool false), (.bool false), (.bool false), (.bool false), (.bool false), (.bool false), (.bool false), (.bool false), (.bool false), (.bool false), (.bool false), (.bool false), (.bool false), (.bool false), (.bool false), (.bool false), (.bool false), (.bool false), (.bool false), (.bool false), (.bool false), (.bool false), (.bool false), (.bool false), (.bool false), (.bool false), (.bool false), (.bool false), (.bool false), (.bool false), (.bool false), (.bool false), (.bool false), (.bool false), (.bool false), (.bool false), (.bool false), (.bool false), (.bool false), (.bool false), (.bool false), (.bool false), (.bool false), (.bool false), (.bool false), (.bool false), (.bool false), (.bool false), (.bool false), (.bool false), (.bool false), (.bool false), (.bool false), (.bool false), (.bool false), (.bool false), (.bool false), (.bool false), (.bool false), (.bool false), (.bool false), (.bool false), (.bool false), (.bool false), (.bool false), (.bool false), (.bool false), (.bool false), (.bool false), (.bool false), (.bool false), (.bool false), (.bool false), (.bool false), (.bool false), (.bool false), (.bool false), (.bool false), (.bool false), (.bool false), (.bool false), (.bool false), (.bool false), (.bool false), (.bool false), (.bool false), (.bool false), (.bool false), (.bool false), (.bool false), (.bool false), (.bool false), (.bool false), (.bool false), (.bool false), (.bool false), (.bool false), (.bool false), (.bool false), (.bool false), (.bool false), (.bool false), (.bool false), (.bool false), (.bool false), (.bool false), (.bool false), (.bool false), (.bool false), (.bool false), (.bool false), (.bool false), (.bool false), (.bool false), (.bool false), (.bool false), (.bool false), (.bool false), (.bool false), (.bool false), (.bool false), (.bool false), (.bool false), (.bool false), (.bool false), (.bool false), (.bool false), (.bool false), (.bool false), (.bool false), (.bool false), (.bool false), (.bool false), (.bool false), (.bool false), (.bool false), (.bool false), (.bool false), (.bool false), (.bool false), (.bool false), (.bool false), (.bool false), (.bool false), (.bool false), (.bool false), (.bool false), (.bool false), (.bool false), (.bool false), (.bool false), (.bool false), (.bool false), (.bool false), (.bool false), (.bool false), (.bool false), (.bool false), (.bool false), (.bool false), (.bool false), (.bool false), (.bool false), (.bool false), (.bool false), (.bool false), (.bool false), (.bool false), (.bool false), (.bool false), (.bool false), (.bool false), (.bool false), (.bool false), (.bool false), (.bool false), (.bool false), (.bool false), (.bool false), (.bool false), (.bool false), (.bool false), (.bool false), (.bool false), (.bool false), (.bool false), (.bool false), (.bool false), (.bool false), (.bool false), (.bool false), (.bool false), (.bool false), (.bool false), (.bool false), (.bool false), (.bool false), (.bool false), (.bool false), (.bool false), (.bool false), (.bool false), (.bool false), (.bool false), (.bool false), (.bool false), (.bool false), (.bool false), (.bool false), (.bool false), (.bool false), (.bool false), (.bool false), (.bool false), (.bool false), (.bool false), (.bool false), (.bool false), (.bool false), (.bool false), (.bool false), (.bool false), (.bool false), (.bool false), (.bool false), (.bool false), (.bool false), (.bool false), (.bool false), (.bool false), (.bool false), (.bool false), (.bool false), (.bool false)] 256) .nil) [(.mk 0 .f0), (.mk 0 .f6)] [(.l 0), (.c (.bool false))]) 
(.seq (.seq (.reg .nil [(.mk 0 .f1)] [(.c (.nat 0))]) 
(.block 0 (.loop (.seq (.seq (.reg (.op (.lens (.s 0 .f3)) (.op (.ib .lss (.s 0 .f1) (.l 0)) .nil)) [(.mk 0 .f4)] [(.l 0)]) 
(.cond (.s 0 .f4) .skip (.exit 0))) 
(.seq (.block 1 (.seq (.reg (.op (.ixs (.s 0 .f3) (.s 0 .f1)) .nil) [(.mk 0 .f2)] [(.l 0)]) 
(.seq (.seq (.reg (.op (.ib .geq (.s 0 .f2) (.c (.byt 128))) .nil) [(.mk 0 .f5)] [(.l 0)]) 
(.cond (.s 0 .f5) (.seq (.reg (.op (.loadn 256 (.s 0 .f0)) (.op (.store 256 (.s 0 .f0) (.l 0)) .nil)) [(.mk 0 .f6)] [(.c (.bool false))]) 
.ret) .skip)) 
(.reg (.op (.gp (.iada 256 1 (.t 0) (.t 4))) (.op (.store1 (.l 0) (.c (.bool true))) .nil)) [] [])))) 
(.reg (.op (.ib .add (.s 0 .f1) (.c (.nat 1))) .nil) [(.mk 0 .f1)] [(.l 0)])))))) 
(.seq (.reg (.op (.loadn 256 (.s 0 .f0)) (.op (.store 256 (.s 0 .f0) (.l 0)) .nil)) [(.mk 0 .f6)] [(.c (.bool true))]) 
.ret))) }
theorem g44 : Good Tryd.prog 44 F44 := ⟨1, [], [2, 4, 5, 0, 9, 16, 3], by kernel_rfl⟩
noncomputable def F45 : EFn := { init := (.n (some 0) (some 1) none none none none none none .nil), nargs := 2, res := [(.s (.mk 0 .f4))], body := (.seq (.reg .nil [(.mk 0 .f4)] [(.c (.str 0 0))]) 
(.seq (.block 0 (.loop (.seq (.seq (.reg (.op (.lens (.s 0 .f0)) (.op (.ib .gtr (.l 0) (.c (.nat 0))) .nil)) [(.mk 0 .f2)] [(.l 0)]) 
(.cond (.s 0 .f2) .skip (.exit 0))) 
(.block 1 (.seq (.seq (.reg (.op (.ixs (.s 0 .f0) (.c (.nat 0))) (.op (.call 67 [(.s 0 .f1), (.l 0)]) (.op (.nt (.l 0)) .nil))) [(.mk 0 .f3)] [(.l 0)]) 
(.cond (.s 0 .f3) (.exit 0) .skip)) 
(.reg (.op (.gp (.sls (some (.c (.int .i64 (.ofNat 1)))) none (.t 0))) .nil) [(.mk 0 .f0)] [(.l 0)])))))) 
(.seq (.reg .nil [(.mk 0 .f4)] [(.s 0 .f0)]) 
.ret))) }
theorem g45 : Good Tryd.prog 45 F45 := ⟨2, [], [0, 1, 7, 12, 4], by kernel_rfl⟩
noncomputable def F46 : EFn := { init := (.n (some 0) none none (some 1) none none none none .nil), nargs := 2, res := [(.s (.mk 0 .f6))], body := (.seq (.reg .nil [(.mk 0 .f6)] [(.c (.str 0 0))]) 
(.seq (.block 0 (.loop (.seq (.seq (.reg (.op (.lens (.s 0 .f0)) (.op (.ib .gtr (.l 0) (.c (.nat 0))) .nil)) [(.mk 0 .f2)] [(.l 0)]) 
(.cond (.s 0 .f2) .skip (.exit 0))) 
(.block 1 (.seq (.reg (.op (.call 68 [(.s 0 .f0)]) (.op (.ext (.l 0) 0) (.op (.ext (.l 1) 1) .nil))) [(.mk 0 .f1), (.mk 0 .f5)] [(.l 1), (.l 0)]) 
(.seq (.seq (.reg (.op (.call 69 [(.s 0 .f3), (.s 0 .f1)]) (.op (.nt (.l 0)) .nil)) [(.mk 0 .f4)] [(.l 0)]) 
(.cond (.s 0 .f4) (.exit 0) .skip)) 
(.reg (.op (.gp (.sls (some (.t 10)) none (.t 0))) .nil) [(.mk 0 .f0)] [(.l 0)]))))))) 
(.seq (.reg .nil [(.mk 0 .f6)] [(.s 0 .f0)]) 
.ret))) }
theorem g46 : Good Tryd.prog 46 F46 := ⟨2, [], [0, 5, 9, 1, 18, 6, 4], by kernel_rfl⟩
noncomputable def F31 : EFn := { init := (.n (some 2) (some 0) (some 1) none none none none none .nil), nargs := 3, res := [], body := (.seq (.reg (.op (.box (.s 0 .f1)) .nil) [(.mk 0 .f3)] [(.l 0)]) 
(.reg (.op (.load (.s 0 .f2)) (.op (.fad 1 (.s 0 .f3)) (.op (.load (.l 0)) (.op (.loadn 2 (.s 0 .f0)) (.op (.call 32 [(.l 3), (.l 1), (.l 0)]) .nil))))) [] [])) }
theorem g31 : Good Tryd.prog 31 F31 := ⟨3, [], [2, 0, 1, 3], by kernel_rfl⟩
noncomputable def F34 : EFn := { init := (.n (some 0) none none none none none none none .nil), nargs := 1, res := [], body := (.seq (.reg (.op (.call 12 [(.s 0 .f0)]) (.op (.zal [(.nat 0), (.nat 0), (.oth .nilSlc), (.oth .nilSlc)] 4) (.op (.store 4 (.l 0) (.l 1)) .nil))) [(.mk 0 .f1)] [(.l 1)]) 
(.seq (.reg (.op (.nck (.s 0 .f0)) (.op (.fad 3 (.l 0)) (.op (.load (.l 0)) (.op (.ib .eql (.l 0) (.c (.nat 0))) .nil)))) [(.mk 0 .f2)] [(.l 0)]) 
(.cond (.s 0 .f2) (.reg (.op (.loadn 4 (.s 0 .f1)) (.op (.call 48 [(.l 0)]) (.op (.ext (.l 0) 0) (.op (.ext (.l 1) 1) (.op (.call 22 [(.s 0 .f0), (.l 1), (.l 0)]) .nil))))) [] []) .skip))) }
theorem g34 : Good Tryd.prog 34 F34 := ⟨1, [], [0, 2, 9], by kernel_rfl⟩
noncomputable def F36 : EFn := { init := (.n (some 0) none none (some 1) none none none none .nil), nargs := 2, res := [], body := (.seq (.reg (.op (.call 12 [(.s 0 .f0)]) (.op (.zal [(.nat 0), (.nat 0), (.oth .nilSlc), (.oth .nilSlc)] 4) (.op (.store 4 (.l 0) (.l 1)) .nil))) [(.mk 0 .f1)] [(.l 1)]) 
(.seq (.reg (.op (.call 12 [(.s 0 .f0)]) (.op (.zal [(.nat 0), (.nat 0), (.oth .nilSlc), (.oth .nilSlc)] 4) (.op (.store 4 (.l 0) (.l 1)) .nil))) [(.mk 0 .f4)] [(.l 1)]) 
(.seq (.reg (.op (.nck (.s 0 .f0)) (.op (.fad 3 (.l 0)) (.op (.load (.l 0)) (.op (.ib .eql (.l 0) (.c (.nat 0))) .nil)))) [(.mk 0 .f2)] [(.l 0)]) 
(.cond (.s 0 .f2) (.reg (.op (.loadn 4 (.s 0 .f4)) (.op (.loadn 4 (.s 0 .f1)) (.op (.callv (.s 0 .f3) [(.l 1), (.l 0)]) (.op (.ext (.l 0) 0) (.op (.ext (.l 1) 1) (.op (.call 22 [(.s 0 .f0), (.l 1), (.l 0)]) .nil)))))) [] []) .skip)))) }
theorem g36 : Good Tryd.prog 36 F36 := ⟨2, [], [0, 4, 14, 1, 5], by kernel_rfl⟩
noncomputable def F37 : EFn := { init := (.n none none (some 1) none none (some 0) none none .nil), nargs := 2, res := [(.cells (.mk 0 .f0) 4), (.s (.mk 0 .f1))], body := (.seq (.reg (.op (.box (.s 0 .f5)) (.op (.box (.s 0 .f2)) (.op (.zal [(.nat 0), (.nat 0), (.oth .nilSlc), (.oth .nilSlc)] 4) .nil))) [(.mk 0 .f0), (.mk 0 .f1), (.mk 0 .f3), (.mk 0 .f4)] [(.l 0), (.c (.nat 0)), (.l 2), (.l 1)]) 
(.seq (.reg (.op (.loadn 4 (.s 0 .f3)) (.op (.loadn 4 (.s 0 .f4)) (.op (.call 49 [(.l 1), (.l 0), (.c (.fn 50 [] []))]) (.op (.ext (.l 0) 0) (.op (.ext (.l 1) 1) (.op (.store 4 (.s 0 .f0) (.l 1)) .nil)))))) [(.mk 0 .f1)] [(.l 1)]) 
.ret)) }
theorem g37 : Good Tryd.prog 37 F37 := ⟨2, [], [4, 5, 1, 2, 3, 0], by kernel_rfl⟩
noncomputable def F39 : EFn := { init := (.n none none (some 1) none none (some 0) none none .nil), nargs := 2, res := [(.cells (.mk 0 .f0) 4), (.s (.mk 0 .f1))], body := (.seq (.reg (.op (.box (.s 0 .f5)) (.op (.box (.s 0 .f2)) (.op (.zal [(.nat 0), (.nat 0), (.oth .nilSlc), (.oth .nilSlc)] 4) .nil))) [(.mk 0 .f0), (.mk 0 .f1), (.mk 0 .f3), (.mk 0 .f4)] [(.l 0), (.c (.nat 0)), (.l 2), (.l 1)]) 
(.seq (.reg (.op (.loadn 4 (.s 0 .f3)) (.op (.loadn 4 (.s 0 .f4)) (.op (.call 49 [(.l 1), (.l 0), (.c (.fn 51 [] []))]) (.op (.ext (.l 0) 0) (.op (.ext (.l 1) 1) (.op (.store 4 (.s 0 .f0) (.l 1)) .nil)))))) [(.mk 0 .f1)] [(.l 1)]) 
.ret)) }
theorem g39 : Good Tryd.prog 39 F39 := ⟨2, [], [4, 5, 1, 2, 3, 0], by kernel_rfl⟩
noncomputable def F52 : EFn := { init := (.n none (some 0) (some 1) (some 2) (some 3) none none none .nil), nargs := 4, res := [(.s (.mk 0 .f0))], body := (.seq (.reg .nil [(.mk 0 .f0)] [(.c (.nat 0))]) 
(.seq (.seq (.reg (.op (.ib .add (.s 0 .f1) (.s 0 .f2)) (.op (.ib .gtr (.l 0) (.c (.nat 0))) (.gop (.l 0) false (.gp (.mv (.t 6))) (.gop (.l 1) false (.gp (.mv (.t 8))) (.gop (.l 2) false (.ib .gtr (.l 1) (.l 0)) (.op (.pick (.l 3) (.c (.bool true)) (.l 0)) .nil)))))) [(.mk 0 .f5)] [(.l 0)]) 
(.cond (.s 0 .f5) (.seq (.reg .nil [(.mk 0 .f0)] [(.c (.nat 3))]) 
.ret) .skip)) 
(.seq (.reg .nil [(.mk 0 .f0)] [(.c (.nat 0))]) 
.ret))) }
theorem g52 : Good Tryd.prog 52 F52 := ⟨4, [], [8, 0, 1, 2, 3, 17], by kernel_rfl⟩
noncomputable def F53 : EFn := { init := (.n none (some 0) (some 1) (some 2) none none none none .nil), nargs := 4, res := [(.s (.mk 0 .f0))], body := (.seq (.reg .nil [(.mk 0 .f0)] [(.c (.nat 0))]) 
(.seq (.seq (.reg (.op (.ib .add (.s 0 .f1) (.s 0 .f2)) (.op (.ib .add (.l 0) (.s 0 .f3)) (.op (.ib .gtr (.l 0) (.c (.nat 0))) .nil))) [(.mk 0 .f4)] [(.l 0)]) 
(.cond (.s 0 .f4) (.seq (.reg .nil [(.mk 0 .f0)] [(.c (.nat 3))]) 
.ret) .skip)) 
(.seq (.reg .nil [(.mk 0 .f0)] [(.c (.nat 0))]) 
.ret))) }
theorem g53 : Good Tryd.prog 53 F53 := ⟨4, [], [8, 0, 1, 2, 14], by kernel_rfl⟩
noncomputable def F54 : EFn := { init := (.n none (some 0) (some 1) (some 2) none none none none .nil), nargs := 4, res := [(.s (.mk 0 .f0))], body := (.seq (.reg .nil [(.mk 0 .f0)] [(.c (.nat 0))]) 
(.seq (.reg (.op (.call 55 [(.s 0 .f1), (.s 0 .f2)]) (.op (.call 55 [(.l 0), (.s 0 .f3)]) (.op (.gp (.mn (.t 1) (.c (.int .i64 (.ofNat 3))))) .nil))) [(.mk 0 .f0)] [(.l 0)]) 
.ret)) }
theorem g54 : Good Tryd.prog 54 F54 := ⟨4, [], [8, 0, 1, 2], by kernel_rfl⟩
noncomputable def F56 : EFn := { init := (.n none (some 0) (some 1) none none none none none .nil), nargs := 2, res := [(.s (.mk 0 .f0))], body := (.seq (.reg (.op (.box (.s 0 .f1)) (.op (.box (.s 0 .f2)) .nil)) [(.mk 0 .f0), (.mk 0 .f3), (.mk 0 .f4)] [(.c (.oth .nilFn)), (.l 1), (.l 0)]) 
(.seq (.reg (.op (.mkf 82 [] [(.s 0 .f3), (.s 0 .f4)]) .nil) [(.mk 0 .f0)] [(.l 0)]) 
.ret)) }
theorem g56 : Good Tryd.prog 56 F56 := ⟨2, [], [4, 0, 1, 2, 3], by kernel_rfl⟩
noncomputable def F57 : EFn := { init := (.n none none none none none none none none .nil), nargs := 2, res := [(.s (.mk 0 .f0))], body := (.seq (.reg .nil [(.mk 0 .f0)] [(.c (.bool false))]) 
(.seq (.reg .nil [(.mk 0 .f0)] [(.c (.bool true))]) 
.ret)) }
theorem g57 : Good Tryd.prog 57 F57 := ⟨2, [], [4], by kernel_rfl⟩
noncomputable def F58 : EFn := { init := (.n none (some 0) none none none none none none .nil), nargs := 2, res := [(.s (.mk 0 .f0))], body := (.seq (.reg .nil [(.mk 0 .f0)] [(.c (.bool false))]) 
(.seq (.reg (.op (.ib .eql (.s 0 .f1) (.c (.nat 1))) .nil) [(.mk 0 .f0)] [(.l 0)]) 
.ret)) }
theorem g58 : Good Tryd.prog 58 F58 := ⟨2, [], [4, 0], by kernel_rfl⟩
noncomputable def F59 : EFn := { init := (.n none (some 1) none none none none none none .nil), nargs := 2, res := [(.s (.mk 0 .f0))], body := (.seq (.reg .nil [(.mk 0 .f0)] [(.c (.bool false))]) 
(.seq (.reg (.op (.ib .eql (.s 0 .f1) (.c (.nat 1))) .nil) [(.mk 0 .f0)] [(.l 0)]) 
.ret)) }
theorem g59 : Good Tryd.prog 59 F59 := ⟨2, [], [4, 1], by kernel_rfl⟩
noncomputable def F60 : EFn := { init := (.n none none none none none none none none .nil), nargs := 4, res := [(.s (.mk 0 .f0))], body := (.seq (.reg .nil [(.mk 0 .f0)] [(.c (.nat 0))]) 
(.seq (.reg .nil [(.mk 0 .f0)] [(.c (.nat 0))]) 
.ret)) }
theorem g60 : Good Tryd.prog 60 F60 := ⟨4, [], [8], by kernel_rfl⟩
noncomputable def F61 : EFn := { init := (.n none none none none (some 0) none none none .nil), nargs := 1, res := [(.cells (.mk 0 .f2) 4)], body := (.seq (.reg (.op (.box (.s 0 .f4)) (.op (.zal [(.nat 0), (.nat 0), (.oth .nilSlc), (.oth .nilSlc)] 4) .nil)) [(.mk 0 .f0), (.mk 0 .f2)] [(.l 1), (.l 0)]) 
(.seq (.reg (.op .mkm (.op (.fad 1 (.s 0 .f0)) (.op (.load (.l 0)) (.op (.mup 1 0 .int (.l 2) (.l 0) (.c (.nat 0))) (.op (.zal [(.oth .nilMap)] 1) (.op (.store1 (.l 0) (.l 4)) .nil)))))) [(.mk 0 .f3)] [(.l 1)]) 
(.seq (.reg (.op (.fad 1 (.s 0 .f0)) (.op (.load (.l 0)) (.op (.bsv 1 1 [(.l 0)]) (.op (.zal [(.oth .nilSlc)] 1) (.op (.store1 (.l 0) (.l 1)) .nil))))) [(.mk 0 .f1)] [(.l 1)]) 
(.seq (.reg (.op (.fad 0 (.s 0 .f0)) (.op (.load (.l 0)) (.op (.mkf 84 [] [(.s 0 .f0), (.s 0 .f1), (.s 0 .f3)]) (.op (.call 83 [(.l 1), (.l 0)]) .nil)))) [] []) 
(.seq (.reg (.op (.fad 0 (.s 0 .f0)) (.op (.load (.l 0)) (.op (.load (.s 0 .f1)) (.op (.lenl (.l 0)) (.op (.mkf 85 [] [(.s 0 .f3), (.s 0 .f0), (.s 0 .f1)]) (.op (.mkf 86 [] [(.s 0 .f0), (.s 0 .f1)]) (.op (.call 63 [(.l 4), (.l 2), (.l 1), (.l 0)]) (.op (.store 4 (.s 0 .f2) (.l 0)) .nil)))))))) [] []) 
.ret))))) }
theorem g61 : Good Tryd.prog 61 F61 := ⟨1, [], [1, 4, 2, 3, 0], by kernel_rfl⟩
noncomputable def F62 : EFn := { init := (.n none none none none none none none none (.n none none none none none none none none (.n none none none none none none none (some 0) .nil))), nargs := 1, res := [(.cell (.mk 1 .f6)), (.s (.mk 2 .f5))], body := (.seq (.reg (.op (.box (.s 2 .f7)) (.op (.zal [(.oth .nilSlc)] 1) .nil)) [(.mk 0 .f2), (.mk 1 .f6), (.mk 2 .f5)] [(.l 1), (.l 0), (.c (.nat 0))]) 
(.seq (.reg (.op (.fad 2 (.s 0 .f2)) (.op (.load (.l 0)) (.op (.lenl (.l 0)) (.op (.mks1 8 (.nat 0) (.l 0) (.l 0)) (.op (.store1 (.s 1 .f6) (.l 0)) .nil))))) [] []) 
(.block 0 (.loop (.block 1 (.seq (.reg (.op .mkm .nil) [(.mk 1 .f3)] [(.l 0)]) 
(.seq (.reg (.op (.load (.s 1 .f6)) (.op (.lenl (.l 0)) (.op (.mks1 8 (.nat 0) (.l 0) (.l 0)) .nil))) [(.mk 2 .f0)] [(.l 0)]) 
(.seq (.seq (.reg (.op (.load (.s 1 .f6)) (.op (.lenl (.l 0)) .nil)) [(.mk 1 .f5), (.mk 2 .f2)] [(.c (.nat 0)), (.l 0)]) 
(.block 2 (.loop (.seq (.reg (.op (.ib .lss (.s 1 .f5) (.s 2 .f2)) .nil) [(.mk 2 .f4)] [(.l 0)]) 
(.seq (.cond (.s 2 .f4) .skip (.exit 2)) 
(.seq (.block 3 (.seq (.reg .nil [(.mk 0 .f1)] [(.s 1 .f5)]) 
(.seq (.reg (.op (.fad 3 (.s 0 .f2)) (.op (.load (.l 0)) (.op (.iad 1 (.l 0) (.s 0 .f1)) (.op (.load (.l 0)) (.op (.call 87 [(.l 0)]) (.op (.s2b (.l 0)) (.op (.zal [(.oth .nilSlc)] 1) (.op (.store1 (.l 0) (.l 1)) .nil)))))))) [(.mk 1 .f4)] [(.l 1)]) 
(.seq (.reg (.op (.mkf 88 [] [(.s 1 .f4), (.s 1 .f6)]) .nil) [(.mk 0 .f4)] [(.l 0)]) 
(.seq (.reg (.op (.callv (.s 0 .f4) [(.s 0 .f1)]) .nil) [] []) 
(.seq (.seq (.reg (.op (.load (.s 1 .f6)) (.op (.lenl (.l 0)) .nil)) [(.mk 1 .f0), (.mk 1 .f2)] [(.c (.nat 0)), (.l 0)]) 
(.block 4 (.loop (.seq (.reg (.op (.ib .lss (.s 1 .f0) (.s 1 .f2)) .nil) [(.mk 1 .f1)] [(.l 0)]) 
(.seq (.cond (.s 1 .f1) .skip (.exit 4)) 
(.seq (.block 5 (.seq (.reg .nil [(.mk 0 .f3)] [(.s 1 .f0)]) 
(.seq (.reg (.op (.fad 2 (.s 0 .f2)) (.op (.load (.l 0)) (.op (.iad 1 (.l 0) (.s 0 .f1)) (.op (.load (.l 0)) (.op (.iad 1 (.l 0) (.s 0 .f3)) (.op (.load (.l 0)) (.op (.lenl (.l 0)) .nil))))))) [(.mk 0 .f0), (.mk 0 .f7)] [(.c (.nat 0)), (.l 0)]) 
(.block 6 (.loop (.seq (.reg (.op (.ib .lss (.s 0 .f0) (.s 0 .f7)) .nil) [(.mk 0 .f6)] [(.l 0)]) 
(.seq (.cond (.s 0 .f6) .skip (.exit 6)) 
(.seq (.block 7 (.seq (.reg .nil [(.mk 0 .f5)] [(.s 0 .f0)]) 
(.seq (.reg (.op (.fad 2 (.s 0 .f2)) (.op (.load (.l 0)) (.op (.iad 1 (.l 0) (.s 0 .f1)) (.op (.load (.l 0)) (.op (.iad 1 (.l 0) (.s 0 .f3)) (.op (.load (.l 0)) (.op (.iad 1 (.l 0) (.s 0 .f5)) (.op (.load (.l 0)) (.op (.callv (.s 0 .f4) [(.l 0)]) .nil))))))))) [] []) 
(.reg (.op (.fad 2 (.s 0 .f2)) (.op (.load (.l 0)) (.op (.iad 1 (.l 0) (.s 0 .f3)) (.op (.load (.l 0)) (.op (.iad 1 (.l 0) (.s 0 .f1)) (.op (.load (.l 0)) (.op (.iad 1 (.l 0) (.s 0 .f5)) (.op (.load (.l 0)) (.op (.callv (.s 0 .f4) [(.l 0)]) .nil))))))))) [] [])))) 
(.reg (.op (.ib .add (.s 0 .f0) (.c (.nat 1))) .nil) [(.mk 0 .f0)] [(.l 0)]))))))))) 
(.reg (.op (.ib .add (.s 1 .f0) (.c (.nat 1))) .nil) [(.mk 1 .f0)] [(.l 0)]))))))) 
(.seq (.reg (.op (.load (.s 1 .f4)) (.op (.b2s (.l 0)) (.op (.look 2 0 .str (.nat 0) true (.s 1 .f3) (.l 0)) (.op (.ext (.l 0) 0) (.op (.ext (.l 1) 1) .nil))))) [(.mk 1 .f7), (.mk 2 .f1)] [(.l 1), (.l 0)]) 
(.seq (.seq (.reg (.op (.nt (.s 2 .f1)) .nil) [(.mk 2 .f3)] [(.l 0)]) 
(.cond (.s 2 .f3) (.seq (.reg (.op (.lenm (.s 1 .f3)) .nil) [(.mk 1 .f7)] [(.l 0)]) 
(.reg (.op (.load (.s 1 .f4)) (.op (.b2s (.l 0)) (.op (.mup 2 0 .str (.s 1 .f3) (.l 0) (.s 1 .f7)) .nil))) [] [])) .skip)) 
(.reg (.op (.iad 1 (.s 2 .f0) (.s 0 .f1)) (.op (.store1 (.l 0) (.s 1 .f7)) .nil)) [] []))))))))) 
(.reg (.op (.ib .add (.s 1 .f5) (.c (.nat 1))) .nil) [(.mk 1 .f5)] [(.l 0)]))))))) 
(.seq (.seq (.reg (.op (.lenm (.s 1 .f3)) (.op (.ib .eql (.l 0) (.s 2 .f5)) .nil)) [(.mk 2 .f6)] [(.l 0)]) 
(.cond (.s 2 .f6) (.seq (.reg (.op (.store1 (.s 1 .f6) (.s 2 .f0)) .nil) [] []) 
.ret) .skip)) 
(.reg (.op (.lenm (.s 1 .f3)) (.op (.store1 (.s 1 .f6) (.s 2 .f0)) .nil)) [(.mk 2 .f5)] [(.l 1)])))))))))) }
theorem g62 : Good Tryd.prog 62 F62 := ⟨1, [], [51, 6, 1, 9, 8, 10, 52, 50, 39, 40, 38, 4, 7, 23, 2, 11, 5, 12, 22, 90, 24, 3, 105, 0], by kernel_rfl⟩
noncomputable def F64 : EFn := { init := (.n (some 5) none (some 0) (some 1) (some 2) (some 3) (some 4) none .nil), nargs := 6, res := [(.s (.mk 0 .f1))], body := (.seq (.reg .nil [(.mk 0 .f1)] [(.c (.nat 0))]) 
(.seq (.regD (.op none (.fad 2 (.s 0 .f6)) (.op none (.load (.s 0 .f5)) (.op none (.load (.l 1)) (.op none (.load (.s 0 .f0)) (.op none (.iad 1 (.l 0) (.s 0 .f2)) (.op none (.load (.l 0)) (.op none (.iad 1 (.l 3) (.l 0)) (.op none (.load (.l 0)) (.op none (.load (.s 0 .f0)) (.op none (.iad 1 (.l 0) (.s 0 .f3)) (.op none (.load (.l 0)) (.op none (.iad 1 (.l 3) (.l 0)) (.op none (.load (.l 0)) (.op none (.iad 1 (.l 0) (.s 0 .f4)) (.op none (.load (.l 0)) (.op none (.iad 1 (.l 13) (.l 0)) (.op none (.load (.l 0)) (.nil .nil)))))))))))))))))) 0 [(.mk 0 .f1)] [(.l 0)]) 
.ret)) }
theorem g64 : Good Tryd.prog 64 F64 := ⟨6, [(1, [(1, false), (4, false), (10, false), (15, false), (0, false), (2, false), (3, false), (5, false), (6, false), (7, false), (8, false), (9, false), (11, false), (12, false), (13, false), (14, false), (16, false), (17, false), (18, false), (19, false), (20, false)])], [5, 9, 0, 1, 2, 3, 4], by kernel_rfl⟩
noncomputable def F65 : EFn := { init := (.n none (some 1) (some 0) (some 2) none none none none .nil), nargs := 3, res := [(.s (.mk 0 .f0))], body := (.seq (.reg .nil [(.mk 0 .f0)] [(.c (.bool false))]) 
(.seq (.regD (.op none (.fad 3 (.s 0 .f1)) (.op none (.load (.l 0)) (.op none (.load (.s 0 .f3)) (.op none (.iad 1 (.l 0) (.s 0 .f2)) (.op none (.load (.l 0)) (.op none (.iad 1 (.l 3) (.l 0)) (.op none (.load (.l 0)) (.nil .nil)))))))) 0 [(.mk 0 .f0)] [(.l 0)]) 
.ret)) }
theorem g65 : Good Tryd.prog 65 F65 := ⟨3, [(1, [(0, false), (3, false), (1, false), (2, false), (4, false), (5, false), (6, false), (7, false), (8, false)])], [4, 1, 0, 2], by kernel_rfl⟩
noncomputable def F63 : EFn := { init := (.n none none none none none (some 2) none none (.n none (some 0) none none none none (some 1) none (.n none (some 3) none none none none none none .nil))), nargs := 4, res := [(.cells (.mk 2 .f2) 4)], body := (.seq (.reg (.op (.zal [(.nat 0), (.nat 0), (.oth .nilSlc), (.oth .nilSlc)] 4) .nil) [(.mk 2 .f2)] [(.l 0)]) 
(.seq (.reg (.op (.gp (.build [(.int .i64 (.ofNat 0)), (.int .i64 (.ofNat 0)), .nilSlc, .nilSlc] [(0, 1, (.t 18))])) (.op (.zal [(.nat 0), (.nat 0), (.oth .nilSlc), (.oth .nilSlc)] 4) (.op (.store 4 (.l 0) (.l 1)) .nil))) [(.mk 1 .f4)] [(.l 1)]) 
(.seq (.seq (.reg .nil [(.mk 1 .f5), (.mk 1 .f7)] [(.c (.nat 0)), (.s 1 .f6)]) 
(.block 0 (.loop (.seq (.reg (.op (.ib .lss (.s 1 .f5) (.s 1 .f7)) .nil) [(.mk 2 .f0)] [(.l 0)]) 
(.seq (.cond (.s 2 .f0) .skip (.exit 0)) 
(.seq (.block 1 (.seq (.reg .nil [(.mk 0 .f3)] [(.s 1 .f5)]) 
(.seq (.reg (.op (.mks1 24 (.oth .nilSlc) (.s 1 .f6) (.s 1 .f6)) .nil) [(.mk 0 .f2)] [(.l 0)]) 
(.seq (.seq (.reg (.op (.lenl (.s 0 .f2)) .nil) [(.mk 1 .f0), (.mk 1 .f3)] [(.c (.nat 0)), (.l 0)]) 
(.block 2 (.loop (.seq (.reg (.op (.ib .lss (.s 1 .f0) (.s 1 .f3)) .nil) [(.mk 1 .f2)] [(.l 0)]) 
(.seq (.cond (.s 1 .f2) .skip (.exit 2)) 
(.seq (.block 3 (.seq (.reg .nil [(.mk 0 .f0)] [(.s 1 .f0)]) 
(.seq (.reg (.op (.ib .shl (.c (.nat 1)) (.s 1 .f1)) .nil) [(.mk 0 .f1), (.mk 0 .f6)] [(.c (.nat 0)), (.l 0)]) 
(.block 4 (.loop (.seq (.reg (.op (.ib .lss (.s 0 .f1) (.s 0 .f6)) .nil) [(.mk 0 .f4)] [(.l 0)]) 
(.seq (.cond (.s 0 .f4) .skip (.exit 4)) 
(.seq (.block 5 (.seq (.reg .nil [(.mk 0 .f7)] [(.s 0 .f1)]) 
(.regD (.op none (.iad 1 (.s 0 .f2) (.s 0 .f0)) (.fl1 5 (.l 0) (.nil (.op none none [5] (.callv (.s 0 .f5) [(.s 0 .f3), (.s 0 .f0), (.s 0 .f7)]) (.op none (some 0) [5] (.bsv 1 1 [(.l 0)]) (.op none (some 1) [] (.app 1 8 (.l 2) (.l 0)) (.op none none [] (.iad 1 (.s 0 .f2) (.s 0 .f0)) (.op none none [] (.store1 (.l 0) (.l 1)) .nil)))))))) 2 [] []))) 
(.reg (.op (.ib .add (.s 0 .f1) (.c (.nat 1))) .nil) [(.mk 0 .f1)] [(.l 0)]))))))))) 
(.reg (.op (.ib .add (.s 1 .f0) (.c (.nat 1))) .nil) [(.mk 1 .f0)] [(.l 0)]))))))) 
(.seq (.reg (.op (.fad 2 (.s 1 .f4)) (.op (.load (.l 0)) (.op (.bsv 1 1 [(.s 0 .f2)]) (.op (.app 1 24 (.l 1) (.l 0)) (.op (.fad 2 (.s 1 .f4)) (.op (.store1 (.l 0) (.l 1)) .nil)))))) [] []) 
(.regD (.op none (.fad 3 (.s 1 .f4)) (.fl1 1 (.l 0) (.nil (.op none none [1] (.callv (.s 2 .f1) [(.s 0 .f3)]) (.op none (some 0) [1] (.bsv 1 1 [(.l 0)]) (.op none (some 1) [] (.app 1 1 (.l 2) (.l 0)) (.op none none [] (.fad 3 (.s 1 .f4)) (.op none none [] (.store1 (.l 0) (.l 1)) .nil)))))))) 2 [] [])))))) 
(.reg (.op (.ib .add (.s 1 .f5) (.c (.nat 1))) .nil) [(.mk 1 .f5)] [(.l 0)]))))))) 
(.seq (.reg (.op (.loadn 4 (.s 1 .f4)) (.op (.store 4 (.s 2 .f2) (.l 0)) .nil)) [] []) 
.ret)))) }
theorem g63 : Good Tryd.prog 63 F63 := ⟨4, [(12, [(0, false), (1, false), (2, false), (3, false), (4, false), (5, true), (6, false), (7, false), (8, false), (9, false), (10, false), (11, false), (12, false), (13, false), (14, false)]), (16, [(0, false), (1, true), (2, false), (3, false), (4, false), (5, false), (6, false), (7, false), (8, false)])], [12, 29, 11, 10, 30, 2, 28, 13, 24, 0, 25, 23, 9, 17, 1, 16, 18, 3, 8], by kernel_rfl⟩
noncomputable def F67 : EFn := { init := (.n none (some 0) (some 1) none none none none none .nil), nargs := 2, res := [(.s (.mk 0 .f0))], body := (.seq (.reg .nil [(.mk 0 .f0)] [(.c (.bool false))]) 
(.seq (.reg (.op (.nck (.s 0 .f1)) (.op (.gp (.iada 256 1 (.t 1) (.t 4))) (.op (.load (.l 0)) .nil))) [(.mk 0 .f0)] [(.l 0)]) 
.ret)) }
theorem g67 : Good Tryd.prog 67 F67 := ⟨2, [], [4, 0, 1], by kernel_rfl⟩
noncomputable def F68 : EFn := { init := (.n (some 0) none none none none none none none .nil), nargs := 1, res := [(.s (.mk 0 .f3)), (.s (.mk 0 .f1))], body := (.seq (.reg .nil [(.mk 0 .f1), (.mk 0 .f3)] [(.c (.nat 0)), (.c (.oth (.int .i32 (.ofNat 0))))]) 
(.seq (.seq (.reg (.op (.gp (.sbin .neq (.t 0) (.c (.str [])))) (.gop (.l 0) true (.gp (.mv (.t 0))) (.gop (.l 1) true (.ixs (.l 0) (.c (.nat 0))) (.gop (.l 2) true (.ib .lss (.l 0) (.c (.byt 128))) (.op (.pick (.l 3) (.l 0) (.c (.bool false))) .nil))))) [(.mk 0 .f2)] [(.l 0)]) 
(.cond (.s 0 .f2) (.seq (.reg (.op (.ixs (.s 0 .f0) (.c (.nat 0))) (.op (.ci .i32 (.l 0)) .nil)) [(.mk 0 .f1), (.mk 0 .f3)] [(.c (.nat 1)), (.l 0)]) 
.ret) (.reg (.op (.call 89 [(.s 0 .f0)]) (.op (.ext (.l 0) 0) (.op (.ext (.l 1) 1) .nil))) [(.mk 0 .f1), (.mk 0 .f3)] [(.l 0), (.l 1)]))) 
.ret)) }
theorem g68 : Good Tryd.prog 68 F68 := ⟨1, [], [0, 3, 10, 2], by kernel_rfl⟩
noncomputable def F69 : EFn := { init := (.n none (some 0) (some 1) none none none none none .nil), nargs := 2, res := [(.s (.mk 0 .f0))], body := (.seq (.reg .nil [(.mk 0 .f0)] [(.c (.bool false))]) 
(.seq (.reg (.op (.call 90 [(.s 0 .f1), (.s 0 .f2)]) (.op (.ib .geq (.l 0) (.c (.nat 0))) .nil)) [(.mk 0 .f0)] [(.l 0)]) 
.ret)) }
theorem g69 : Good Tryd.prog 69 F69 := ⟨2, [], [4, 0, 1], by kernel_rfl⟩
noncomputable def F32 : EFn := { init := (.n (some 0) none none (some 1) none (some 2) none none (.n none none none none none none none none .nil)), nargs := 3, res := [], body := (.seq (.reg (.op (.box (.s 0 .f5)) .nil) [(.mk 0 .f1)] [(.l 0)]) 
(.seq (.reg (.op (.mkf 34 [(.s 0 .f0)] []) .nil) [(.mk 0 .f2)] [(.l 0)]) 
(.seq (.seq (.reg (.op (.fad 0 (.s 0 .f1)) (.op (.load (.l 0)) .nil)) [(.mk 0 .f7)] [(.l 0)]) 
(.cond (.s 0 .f7) (.reg (.op (.callv (.s 0 .f2) []) .nil) [] []) .skip)) 
(.seq (.seq (.reg (.op (.fad 1 (.s 0 .f1)) (.op (.load (.l 0)) .nil)) [(.mk 0 .f6)] [(.l 0)]) 
(.cond (.s 0 .f6) (.seq (.reg (.op (.gp (.build [(.int .u8 (.ofNat 0)), (.int .i64 (.ofNat 0)), (.int .i64 (.ofNat 0)), (.int .i64 (.ofNat 0)), (.int .i64 (.ofNat 0))] [(0, 1, (.c (.int .u8 (.ofNat 4)))), (1, 1, (.t 6))])) (.op (.nck (.s 0 .f0)) (.op (.fad 0 (.l 0)) (.op (.load (.l 0)) (.op (.call 23 [(.l 3), (.l 0)]) (.op (.call 22 [(.s 0 .f0), (.l 0), (.c (.nat 0))]) .nil)))))) [] []) 
(.reg (.op (.call 36 [(.s 0 .f0), (.c (.fn 37 [] []))]) .nil) [] [])) .skip)) 
(.seq (.reg (.op (.call 12 [(.s 0 .f0)]) (.op (.zal [(.nat 0), (.nat 0), (.oth .nilSlc), (.oth .nilSlc)] 4) (.op (.store 4 (.l 0) (.l 1)) .nil))) [(.mk 1 .f1)] [(.l 1)]) 
(.seq (.seq (.reg (.op (.nck (.s 0 .f0)) (.op (.fad 3 (.l 0)) (.op (.load (.l 0)) (.op (.ib .eql (.l 0) (.c (.nat 0))) .nil)))) [(.mk 1 .f0)] [(.l 0)]) 
(.cond (.s 1 .f0) (.regD (.op none (.nck (.s 0 .f0)) (.op none (.fad 1 (.l 0)) (.op none (.loadn 4 (.s 1 .f1)) (.op none (.load (.l 1)) (.nil (.op none none [] (.call 47 [(.l 1), (.s 0 .f3), (.l 0)]) (.op none none [] (.ext (.l 0) 0) (.op none none [] (.ext (.l 1) 1) (.op none none [] (.call 22 [(.s 0 .f0), (.l 1), (.l 0)]) .nil))))))))) 0 [] []) .skip)) 
(.seq (.reg (.op (.fad 0 (.s 0 .f1)) (.op (.load (.l 0)) .nil)) [(.mk 0 .f4)] [(.l 0)]) 
(.cond (.s 0 .f4) (.reg (.op (.callv (.s 0 .f2) []) .nil) [] []) .skip)))))))) }
theorem g32 : Good Tryd.prog 32 F32 := ⟨3, [(9, [(0, false), (2, false), (3, false), (4, false), (5, false), (1, false), (6, false), (7, false), (8, false), (9, false), (10, false)])], [0, 5, 6, 1, 46, 2, 15, 11, 33, 7], by kernel_rfl⟩
noncomputable def F48 : EFn := { init := (.n none none none none none none none none (.n none none (some 0) none none none none none .nil)), nargs := 1, res := [(.cells (.mk 0 .f7) 4), (.s (.mk 1 .f1))], body := (.seq (.reg (.op (.box (.s 1 .f2)) (.op (.zal [(.nat 0), (.nat 0), (.oth .nilSlc), (.oth .nilSlc)] 4) .nil)) [(.mk 0 .f1), (.mk 0 .f7), (.mk 1 .f1)] [(.l 1), (.l 0), (.c (.nat 0))]) 
(.seq (.seq (.reg (.op (.loadn 4 (.s 0 .f1)) (.op (.call 13 [(.l 0)]) .nil)) [(.mk 1 .f0)] [(.l 0)]) 
(.seq (.reg (.op (.ib .neq (.s 1 .f0) (.c (.nat 0))) .nil) [(.mk 1 .f3)] [(.l 0)]) 
(.cond (.s 1 .f3) (.seq (.reg (.op (.gp (.build [(.int .i64 (.ofNat 0)), (.int .i64 (.ofNat 0)), .nilSlc, .nilSlc] [])) (.op (.store 4 (.s 0 .f7) (.l 0)) .nil)) [(.mk 1 .f1)] [(.s 1 .f0)]) 
.ret) .skip))) 
(.seq (.reg (.op (.fad 3 (.s 0 .f1)) (.op (.load (.l 0)) (.op (.call 77 [(.l 0)]) (.op (.fad 3 (.s 0 .f1)) (.op (.store1 (.l 0) (.l 1)) .nil))))) [] []) 
(.seq (.seq (.reg (.op (.fad 3 (.s 0 .f1)) (.op (.load (.l 0)) (.op (.lenl (.l 0)) .nil))) [(.mk 0 .f0), (.mk 0 .f2), (.mk 0 .f4)] [(.c (.nat 0)), (.l 0), (.l 1)]) 
(.block 0 (.loop (.seq (.reg (.op (.ib .lss (.s 0 .f0) (.s 0 .f2)) .nil) [(.mk 0 .f5)] [(.l 0)]) 
(.seq (.cond (.s 0 .f5) .skip (.exit 0)) 
(.seq (.block 1 (.seq (.reg (.op (.iad 1 (.s 0 .f4) (.s 0 .f0)) (.op (.load (.l 0)) .nil)) [(.mk 0 .f3), (.mk 0 .f6)] [(.s 0 .f0), (.l 0)]) 
(.reg (.op (.fad 3 (.s 0 .f1)) (.op (.load (.l 0)) (.op (.nt (.s 0 .f6)) (.op (.iad 1 (.l 1) (.s 0 .f3)) (.op (.store1 (.l 0) (.l 1)) .nil))))) [] []))) 
(.reg (.op (.ib .add (.s 0 .f0) (.c (.nat 1))) .nil) [(.mk 0 .f0)] [(.l 0)]))))))) 
(.seq (.reg (.op (.loadn 4 (.s 0 .f1)) (.op (.call 41 [(.l 0)]) (.op (.ext (.l 0) 0) (.op (.ext (.l 1) 1) (.op (.store 4 (.s 0 .f7) (.l 1)) .nil))))) [(.mk 1 .f1)] [(.l 1)]) 
.ret))))) }
theorem g48 : Good Tryd.prog 48 F48 := ⟨1, [], [20, 1, 19, 5, 18, 21, 6, 2, 4, 3, 0, 10], by kernel_rfl⟩
noncomputable def F49 : EFn := { init := (.n none none none none none none none none (.n none none (some 0) (some 1) (some 2) none none none (.n none none none none none none none none .nil))), nargs := 3, res := [(.cells (.mk 0 .f2) 4), (.s (.mk 1 .f1))], body := (.seq (.reg (.op (.box (.s 1 .f2)) (.op (.box (.s 1 .f3)) (.op (.box (.s 1 .f4)) (.op (.zal [(.nat 0), (.nat 0), (.oth .nilSlc), (.oth .nilSlc)] 4) .nil)))) [(.mk 0 .f2), (.mk 0 .f7), (.mk 1 .f0), (.mk 1 .f1), (.mk 2 .f2)] [(.l 0), (.l 3), (.l 2), (.c (.nat 0)), (.l 1)]) 
(.seq (.seq (.reg (.op (.loadn 4 (.s 0 .f7)) (.op (.loadn 4 (.s 1 .f0)) (.op (.gp (.build [(.int .i64 (.ofNat 0)), (.int .i64 (.ofNat 0)), .nilSlc, .nilSlc, (.int .i64 (.ofNat 0)), (.int .i64 (.ofNat 0)), .nilSlc, .nilSlc] [(0, 4, (.t 3)), (4, 4, (.t 1))])) .nil))) [(.mk 0 .f0), (.mk 0 .f4)] [(.c (.nat 0)), (.l 0)]) 
(.block 0 (.loop (.seq (.reg (.op (.ib .lss (.s 0 .f0) (.c (.nat 2))) .nil) [(.mk 0 .f3)] [(.l 0)]) 
(.seq (.cond (.s 0 .f3) .skip (.exit 0)) 
(.seq (.block 1 (.seq (.reg (.op (.gp (.ixa 2 4 true (.t 8) (.t 0))) (.op (.zal [(.nat 0), (.nat 0), (.oth .nilSlc), (.oth .nilSlc)] 4) (.op (.store 4 (.l 0) (.l 1)) .nil))) [(.mk 0 .f5)] [(.l 1)]) 
(.seq (.reg (.op (.loadn 4 (.s 0 .f5)) (.op (.call 13 [(.l 0)]) .nil)) [(.mk 0 .f1)] [(.l 0)]) 
(.seq (.reg (.op (.ib .neq (.s 0 .f1) (.c (.nat 0))) .nil) [(.mk 0 .f6)] [(.l 0)]) 
(.cond (.s 0 .f6) (.seq (.reg (.op (.gp (.build [(.int .i64 (.ofNat 0)), (.int .i64 (.ofNat 0)), .nilSlc, .nilSlc] [])) (.op (.store 4 (.s 0 .f2) (.l 0)) .nil)) [(.mk 1 .f1)] [(.s 0 .f1)]) 
.ret) .skip))))) 
(.reg (.op (.ib .add (.s 0 .f0) (.c (.nat 1))) .nil) [(.mk 0 .f0)] [(.l 0)]))))))) 
(.seq (.seq (.reg (.op (.fad 0 (.s 0 .f7)) (.op (.load (.l 0)) (.op (.fad 0 (.s 1 .f0)) (.op (.load (.l 0)) (.op (.ib .neq (.l 2) (.l 0)) .nil))))) [(.mk 1 .f5)] [(.l 0)]) 
(.cond (.s 1 .f5) (.seq (.reg (.op (.gp (.build [(.int .i64 (.ofNat 0)), (.int .i64 (.ofNat 0)), .nilSlc, .nilSlc] [])) (.op (.store 4 (.s 0 .f2) (.l 0)) .nil)) [(.mk 1 .f1)] [(.c (.nat 7))]) 
.ret) .skip)) 
(.seq (.reg (.op (.fad 0 (.s 0 .f7)) (.op (.load (.l 0)) (.op (.fad 1 (.s 0 .f7)) (.op (.load (.l 0)) (.op (.fad 1 (.s 1 .f0)) (.op (.load (.l 0)) (.op (.gp (.build [(.int .i64 (.ofNat 0)), (.int .i64 (.ofNat 0))] [(0, 1, (.t 5)), (1, 1, (.t 1))])) (.op (.mkf 79 [] [(.s 0 .f7), (.s 1 .f0)]) (.op (.call 78 [(.l 6), (.c (.nat 64)), (.l 1), (.l 0)]) (.op (.ext (.l 0) 0) (.op (.ext (.l 1) 1) (.op (.ext (.l 2) 2) .nil)))))))))))) [(.mk 1 .f6), (.mk 2 .f0), (.mk 2 .f1)] [(.l 0), (.l 2), (.l 1)]) 
(.seq (.seq (.reg (.op (.nt (.s 1 .f6)) .nil) [(.mk 1 .f7)] [(.l 0)]) 
(.cond (.s 1 .f7) (.seq (.reg (.op (.gp (.build [(.int .i64 (.ofNat 0)), (.int .i64 (.ofNat 0)), .nilSlc, .nilSlc] [])) (.op (.store 4 (.s 0 .f2) (.l 0)) .nil)) [(.mk 1 .f1)] [(.c (.nat 10))]) 
.ret) .skip)) 
(.seq (.reg (.op (.fad 0 (.s 0 .f7)) (.op (.load (.l 0)) (.op (.mkf 81 [] [(.s 2 .f2), (.s 0 .f7), (.s 1 .f0)]) (.op (.call 80 [(.l 1), (.s 2 .f0), (.s 2 .f1), (.l 0)]) (.op (.ext (.l 0) 0) (.op (.ext (.l 1) 1) (.op (.store 4 (.s 0 .f2) (.l 1)) .nil))))))) [(.mk 1 .f1)] [(.l 1)]) 
.ret)))))) }
theorem g49 : Good Tryd.prog 49 F49 := ⟨3, [], [17, 10, 6, 18, 16, 9, 23, 3, 4, 7, 0, 1, 2, 31, 13, 47, 11, 12, 5], by kernel_rfl⟩
noncomputable def F50 : EFn := { init := (.n none (some 0) (some 1) none none none none none .nil), nargs := 2, res := [(.s (.mk 0 .f0))], body := (.seq (.reg .nil [(.mk 0 .f0)] [(.c (.bool false))]) 
(.seq (.reg (.gop (.s 0 .f1) true (.gp (.mv (.t 4))) (.op (.pick (.s 0 .f1) (.l 0) (.c (.bool false))) .nil)) [(.mk 0 .f0)] [(.l 0)]) 
.ret)) }
theorem g50 : Good Tryd.prog 50 F50 := ⟨2, [], [4, 0, 1], by kernel_rfl⟩
noncomputable def F51 : EFn := { init := (.n none (some 0) (some 1) none none none none none .nil), nargs := 2, res := [(.s (.mk 0 .f0))], body := (.seq (.reg .nil [(.mk 0 .f0)] [(.c (.bool false))]) 
(.seq (.reg (.gop (.s 0 .f1) false (.gp (.mv (.t 4))) (.op (.pick (.s 0 .f1) (.c (.bool true)) (.l 0)) .nil)) [(.mk 0 .f0)] [(.l 0)]) 
.ret)) }
theorem g51 : Good Tryd.prog 51 F51 := ⟨2, [], [4, 0, 1], by kernel_rfl⟩
noncomputable def F55 : EFn := { init := (.n (some 1) (some 0) none none none none none none .nil), nargs := 2, res := [(.s (.mk 0 .f2))], body := (.seq (.reg .nil [(.mk 0 .f2)] [(.c (.nat 0))]) 
(.seq (.seq (.reg (.op (.ib .neq (.s 0 .f1) (.c (.nat 0))) (.gop (.l 0) true (.gp (.mv (.t 0))) (.gop (.l 1) true (.ib .neq (.l 0) (.c (.nat 0))) (.op (.pick (.l 2) (.l 0) (.c (.bool false))) .nil)))) [(.mk 0 .f3)] [(.l 0)]) 
(.cond (.s 0 .f3) (.seq (.reg .nil [(.mk 0 .f2)] [(.c (.nat 3))]) 
.ret) .skip)) 
(.seq (.reg (.op (.ib .add (.s 0 .f1) (.s 0 .f0)) .nil) [(.mk 0 .f2)] [(.l 0)]) 
.ret))) }
theorem g55 : Good Tryd.prog 55 F55 := ⟨2, [], [1, 0, 4, 10], by kernel_rfl⟩
noncomputable def F82 : EFn := { init := (.n none (some 2) (some 3) (some 0) (some 1) (some 4) none none (.n none (some 5) none none none none none none .nil)), nargs := 6, res := [(.s (.mk 0 .f6))], body := (.seq (.reg .nil [(.mk 0 .f6)] [(.c (.nat 0))]) 
(.seq (.reg (.op (.call 55 [(.s 0 .f3), (.s 0 .f4)]) .nil) [(.mk 0 .f0)] [(.l 0)]) 
(.seq (.block 0 (.seq (.reg (.op (.ib .eql (.s 0 .f1) (.c (.nat 0))) (.gop (.l 0) true (.gp (.mv (.t 4))) (.gop (.l 1) true (.ib .eql (.l 0) (.c (.nat 0))) (.op (.pick (.l 2) (.l 0) (.c (.bool false))) (.gop (.l 0) true (.load (.s 0 .f5)) (.gop (.l 1) true (.gp (.mv (.t 1))) (.gop (.l 0) false (.gp (.mv (.t 0))) (.gop (.l 1) false (.ib .neq (.l 0) (.c (.nat 1))) (.gop (.l 4) true (.pick (.l 2) (.c (.bool true)) (.l 0)) (.op (.pick (.l 5) (.l 0) (.c (.bool false))) .nil)))))))))) [(.mk 0 .f7)] [(.l 0)]) 
(.cond (.s 0 .f7) (.seq (.reg .nil [(.mk 0 .f6)] [(.s 0 .f0)]) 
.ret) (.seq (.reg (.op (.ib .eql (.s 0 .f1) (.c (.nat 0))) (.gop (.l 0) true (.gp (.mv (.t 4))) (.gop (.l 1) true (.ib .eql (.l 0) (.c (.nat 1))) (.op (.pick (.l 2) (.l 0) (.c (.bool false))) (.gop (.l 0) true (.gp (.mv (.t 0))) (.gop (.l 1) true (.ib .eql (.l 0) (.c (.nat 0))) (.op (.pick (.l 2) (.l 0) (.c (.bool false))) .nil))))))) [(.mk 1 .f0)] [(.l 0)]) 
(.cond (.s 1 .f0) (.seq (.reg .nil [(.mk 0 .f6)] [(.c (.nat 1))]) 
.ret) (.seq (.reg (.op (.ib .eql (.s 0 .f1) (.c (.nat 1))) (.gop (.l 0) true (.gp (.mv (.t 4))) (.gop (.l 1) true (.ib .eql (.l 0) (.c (.nat 0))) (.op (.pick (.l 2) (.l 0) (.c (.bool false))) (.gop (.l 0) true (.gp (.mv (.t 0))) (.gop (.l 1) true (.ib .eql (.l 0) (.c (.nat 1))) (.op (.pick (.l 2) (.l 0) (.c (.bool false))) (.gop (.l 0) true (.load (.s 1 .f1)) (.gop (.l 1) true (.gp (.mv (.t 6))) (.gop (.l 2) true (.gp (.mv (.t 8))) (.gop (.l 3) true (.callv (.l 2) [(.l 1), (.l 0)]) (.op (.pick (.l 4) (.l 0) (.c (.bool false))) .nil)))))))))))) [(.mk 1 .f2)] [(.l 0)]) 
(.cond (.s 1 .f2) (.seq (.reg .nil [(.mk 0 .f6)] [(.c (.nat 2))]) 
.ret) .skip))))))) 
(.seq (.reg .nil [(.mk 0 .f6)] [(.c (.nat 3))]) 
.ret)))) }
theorem g82 : Good Tryd.prog 82 F82 := ⟨6, [], [11, 2, 3, 0, 1, 4, 10, 15, 30, 5, 41], by kernel_rfl⟩
noncomputable def F84 : EFn := { init := (.n (some 4) none (some 5) none (some 2) (some 3) (some 0) (some 1) (.n none none none none none none none none .nil)), nargs := 6, res := [(.s (.mk 0 .f3))], body := (.seq (.reg .nil [(.mk 0 .f3)] [(.c (.nat 0))]) 
(.seq (.regD (.op none (.fad 2 (.s 0 .f5)) (.op none (.load (.l 0)) (.op none (.load (.s 0 .f0)) (.op none (.iad 1 (.l 0) (.s 0 .f6)) (.op none (.load (.l 0)) (.op none (.iad 1 (.l 3) (.l 0)) (.op none (.load (.l 0)) (.op none (.load (.s 0 .f0)) (.op none (.iad 1 (.l 0) (.s 0 .f7)) (.op none (.load (.l 0)) (.op none (.iad 1 (.l 3) (.l 0)) (.op none (.load (.l 0)) (.op none (.iad 1 (.l 0) (.s 0 .f4)) (.op none (.load (.l 0)) (.nil .nil))))))))))))))) 0 [(.mk 0 .f1)] [(.l 0)]) 
(.seq (.seq (.reg (.op (.load (.s 0 .f2)) (.op (.look 1 0 .int (.nat 0) true (.l 0) (.s 0 .f1)) (.op (.ext (.l 0) 0) (.op (.ext (.l 1) 1) .nil)))) [(.mk 1 .f0)] [(.l 0)]) 
(.seq (.reg (.op (.nt (.s 1 .f0)) .nil) [(.mk 1 .f1)] [(.l 0)]) 
(.cond (.s 1 .f1) (.seq (.reg (.op (.load (.s 0 .f2)) (.op (.load (.s 0 .f0)) (.op (.lenl (.l 0)) (.op (.mup 1 0 .int (.l 2) (.s 0 .f1) (.l 0)) .nil)))) [] []) 
(.reg (.op (.load (.s 0 .f0)) (.op (.bsv 1 1 [(.s 0 .f1)]) (.op (.app 1 8 (.l 1) (.l 0)) (.op (.store1 (.s 0 .f0) (.l 0)) .nil)))) [] [])) .skip))) 
(.seq (.reg (.op (.load (.s 0 .f0)) (.op (.lenl (.l 0)) .nil)) [(.mk 0 .f3)] [(.l 0)]) 
.ret)))) }
theorem g84 : Good Tryd.prog 84 F84 := ⟨6, [(1, [(0, false), (3, false), (9, false), (14, false), (1, false), (2, false), (4, false), (5, false), (6, false), (7, false), (8, false), (10, false), (11, false), (12, false), (13, false), (15, false), (16, false), (17, false)])], [4, 10, 5, 9, 2, 3, 0, 1, 12, 37], by kernel_rfl⟩
noncomputable def F83 : EFn := { init := (.n none none none none none (some 1) none none (.n none none (some 0) none none none none none .nil)), nargs := 2, res := [], body := (.seq (.reg .nil [(.mk 0 .f2)] [(.c (.nat 1))]) 
(.seq .skip 
(.seq (.reg .nil [(.mk 1 .f5)] [(.c (.nat 0))]) 
(.block 0 (.loop (.seq (.seq (.reg (.op (.ib .lss (.s 1 .f5) (.s 0 .f2)) .nil) [(.mk 1 .f7)] [(.l 0)]) 
(.cond (.s 1 .f7) .skip (.exit 0))) 
(.seq (.block 1 (.seq (.reg .nil [(.mk 1 .f4)] [(.c (.nat 0))]) 
(.block 2 (.loop (.seq (.seq (.reg (.op (.ib .leq (.s 1 .f4) (.s 1 .f5)) .nil) [(.mk 1 .f6)] [(.l 0)]) 
(.cond (.s 1 .f6) .skip (.exit 2))) 
(.seq (.block 3 (.seq (.reg (.op (.gp (.build [(.int .i64 (.ofNat 0)), (.int .i64 (.ofNat 0))] [(0, 1, (.t 24)), (1, 1, (.t 26))])) (.op (.gp (.build [(.int .i64 (.ofNat 0)), (.int .i64 (.ofNat 0))] [(0, 1, (.t 26)), (1, 1, (.t 24))])) (.op (.gp (.build [(.int .i64 (.ofNat 0)), (.int .i64 (.ofNat 0)), (.int .i64 (.ofNat 0)), (.int .i64 (.ofNat 0))] [(0, 2, (.t 3)), (2, 2, (.t 1))])) .nil))) [(.mk 1 .f0), (.mk 1 .f1)] [(.c (.nat 0)), (.l 0)]) 
(.block 4 (.loop (.seq (.reg (.op (.ib .lss (.s 1 .f0) (.c (.nat 2))) .nil) [(.mk 1 .f3)] [(.l 0)]) 
(.seq (.cond (.s 1 .f3) .skip (.exit 4)) 
(.seq (.block 5 (.seq (.reg (.op (.gp (.ixa 2 2 true (.t 18) (.t 16))) (.op (.zal [(.nat 0), (.nat 0)] 2) (.op (.store 2 (.l 0) (.l 1)) .nil))) [(.mk 0 .f1)] [(.l 1)]) 
(.seq (.reg (.op (.ib .shl (.c (.nat 1)) (.s 1 .f2)) .nil) [(.mk 0 .f0), (.mk 0 .f3)] [(.c (.nat 0)), (.l 0)]) 
(.block 6 (.loop (.seq (.reg (.op (.ib .lss (.s 0 .f0) (.s 0 .f3)) .nil) [(.mk 0 .f7)] [(.l 0)]) 
(.seq (.cond (.s 0 .f7) .skip (.exit 6)) 
(.seq (.block 7 (.seq (.reg .nil [(.mk 0 .f6)] [(.s 0 .f0)]) 
(.seq (.reg (.op (.gp (.iada 2 1 (.t 2) (.c (.int .i64 (.ofNat 0))))) (.op (.load (.l 0)) (.op (.gp (.iada 2 1 (.t 2) (.c (.int .i64 (.ofNat 1))))) (.op (.load (.l 0)) (.op (.callv (.s 0 .f5) [(.l 2), (.l 0), (.s 0 .f6)]) .nil))))) [(.mk 0 .f2)] [(.l 0)]) 
(.seq (.reg (.op (.ib .lss (.s 0 .f2) (.c (.nat 0))) .nil) [(.mk 0 .f4)] [(.l 0)]) 
(.cond (.s 0 .f4) (.exit 0) .skip))))) 
(.reg (.op (.ib .add (.s 0 .f0) (.c (.nat 1))) .nil) [(.mk 0 .f0)] [(.l 0)]))))))))) 
(.reg (.op (.ib .add (.s 1 .f0) (.c (.nat 1))) .nil) [(.mk 1 .f0)] [(.l 0)])))))))) 
(.reg (.op (.ib .add (.s 1 .f4) (.c (.nat 1))) .nil) [(.mk 1 .f4)] [(.l 0)]))))))) 
(.reg (.op (.ib .add (.s 1 .f5) (.c (.nat 1))) .nil) [(.mk 1 .f5)] [(.l 0)])))))))) }
theorem g83 : Good Tryd.prog 83 F83 := ⟨2, [], [32, 8, 4, 31, 43, 1, 9, 33, 27, 26, 0, 28, 6, 5, 17, 12], by kernel_rfl⟩
noncomputable def F85 : EFn := { init := (.n (some 5) none (some 0) (some 1) (some 2) (some 3) (some 4) none .nil), nargs := 6, res := [(.s (.mk 0 .f1))], body := (.seq (.reg .nil [(.mk 0 .f1)] [(.c (.nat 0))]) 
(.seq (.regD (.op none (.fad 2 (.s 0 .f6)) (.op none (.load (.s 0 .f5)) (.op none (.load (.l 1)) (.op none (.load (.s 0 .f0)) (.op none (.iad 1 (.l 0) (.s 0 .f2)) (.op none (.load (.l 0)) (.op none (.iad 1 (.l 3) (.l 0)) (.op none (.load (.l 0)) (.op none (.load (.s 0 .f0)) (.op none (.iad 1 (.l 0) (.s 0 .f3)) (.op none (.load (.l 0)) (.op none (.iad 1 (.l 3) (.l 0)) (.op none (.load (.l 0)) (.op none (.iad 1 (.l 0) (.s 0 .f4)) (.op none (.load (.l 0)) (.op none (.look 1 0 .int (.nat 0) false (.l 13) (.l 0)) (.nil .nil))))))))))))))))) 0 [(.mk 0 .f1)] [(.l 0)]) 
.ret)) }
theorem g85 : Good Tryd.prog 85 F85 := ⟨6, [(1, [(1, false), (4, false), (10, false), (15, false), (0, false), (2, false), (3, false), (5, false), (6, false), (7, false), (8, false), (9, false), (11, false), (12, false), (13, false), (14, false), (16, false), (17, false), (18, false), (19, false)])], [5, 9, 0, 1, 2, 3, 4], by kernel_rfl⟩
noncomputable def F86 : EFn := { init := (.n none (some 1) (some 0) (some 2) none none none none .nil), nargs := 3, res := [(.s (.mk 0 .f0))], body := (.seq (.reg .nil [(.mk 0 .f0)] [(.c (.bool false))]) 
(.seq (.regD (.op none (.fad 3 (.s 0 .f1)) (.op none (.load (.l 0)) (.op none (.load (.s 0 .f3)) (.op none (.iad 1 (.l 0) (.s 0 .f2)) (.op none (.load (.l 0)) (.op none (.iad 1 (.l 3) (.l 0)) (.op none (.load (.l 0)) (.nil .nil)))))))) 0 [(.mk 0 .f0)] [(.l 0)]) 
.ret)) }
theorem g86 : Good Tryd.prog 86 F86 := ⟨3, [(1, [(0, false), (3, false), (1, false), (2, false), (4, false), (5, false), (6, false), (7, false), (8, false)])], [4, 1, 0, 2], by kernel_rfl⟩
noncomputable def F87 : EFn := { init := (.n none (some 0) none none none none none none .nil), nargs := 1, res := [(.s (.mk 0 .f0))], body := (.seq (.reg .nil [(.mk 0 .f0)] [(.c (.str 0 0))]) 
(.seq (.reg (.op (.call 96 [(.s 0 .f1)]) .nil) [(.mk 0 .f0)] [(.l 0)]) 
.ret)) }
theorem g87 : Good Tryd.prog 87 F87 := ⟨1, [], [2, 0], by kernel_rfl⟩
noncomputable def F88 : EFn := { init := (.n (some 1) (some 2) (some 0) none none none none none .nil), nargs := 3, res := [], body := (.regD (.op none (.load (.s 0 .f0)) (.op none (.load (.s 0 .f1)) (.op none (.iad 1 (.l 0) (.s 0 .f2)) (.op none (.load (.l 0)) (.op none (.ci .u8 (.l 0)) (.nil (.op none (some 0) [] (.bsv 2 1 [(.c (.byt 32)), (.l 0)]) (.op none (some 1) [] (.app 1 1 (.l 5) (.l 0)) (.op none none [] (.store1 (.s 0 .f0) (.l 0)) .nil))))))))) 2 [] []) }
theorem g88 : Good Tryd.prog 88 F88 := ⟨3, [(0, [(2, false), (0, false), (1, false), (3, false), (4, false), (5, false), (6, false), (7, false), (8, false)])], [1, 2, 0], by kernel_rfl⟩
noncomputable def F89 : EFn := { init := (.n (some 0) none none none none none none none (.n none none none none none none none none (.n none none none none none none none none .nil))), nargs := 1, res := [(.s (.mk 2 .f3)), (.s (.mk 1 .f2))], body := (.seq (.reg .nil [(.mk 1 .f2), (.mk 2 .f3)] [(.c (.nat 0)), (.c (.oth (.int .i32 (.ofNat 0))))]) 
(.seq (.reg (.op (.lens (.s 0 .f0)) .nil) [(.mk 1 .f1)] [(.l 0)]) 
(.seq (.seq (.reg (.op (.ib .lss (.s 1 .f1) (.c (.nat 1))) .nil) [(.mk 2 .f1)] [(.l 0)]) 
(.cond (.s 2 .f1) (.seq (.reg .nil [(.mk 1 .f2), (.mk 2 .f3)] [(.c (.nat 0)), (.c (.oth (.int .i32 (.ofNat 65533))))]) 
.ret) .skip)) 
(.seq (.reg (.op (.ixs (.s 0 .f0) (.c (.nat 0))) .nil) [(.mk 0 .f5)] [(.l 0)]) 
(.seq .bad 
(.seq (.seq (.reg (.op (.ib .geq (.s 0 .f3) (.c (.byt 240))) .nil) [(.mk 1 .f5)] [(.l 0)]) 
(.cond (.s 1 .f5) (.seq (.reg (.op (.ci .i32 (.s 0 .f3)) (.op (.ib .shl (.l 0) (.c (.u64 31))) (.op (.ib .shr (.l 0) (.c (.u64 31))) .nil))) [(.mk 1 .f0)] [(.l 0)]) 
(.seq (.reg (.op (.ixs (.s 0 .f0) (.c (.nat 0))) (.op (.ci .i32 (.l 0)) (.op (.ib .andNot (.l 0) (.s 1 .f0)) (.op (.ib .and (.c (.oth (.int .i32 (.ofNat 65533)))) (.s 1 .f0)) (.op (.ib .or (.l 1) (.l 0)) .nil))))) [(.mk 1 .f2), (.mk 2 .f3)] [(.c (.nat 1)), (.l 0)]) 
.ret)) .skip)) 
(.seq (.reg (.op (.ib .and (.s 0 .f3) (.c (.byt 7))) (.op (.ci .i64 (.l 0)) .nil)) [(.mk 0 .f4)] [(.l 0)]) 
(.seq .bad 
(.seq (.seq (.reg (.op (.ib .lss (.s 1 .f1) (.s 0 .f4)) .nil) [(.mk 1 .f6)] [(.l 0)]) 
(.cond (.s 1 .f6) (.seq (.reg .nil [(.mk 1 .f2), (.mk 2 .f3)] [(.c (.nat 1)), (.c (.oth (.int .i32 (.ofNat 65533))))]) 
.ret) .skip)) 
(.seq (.reg (.op (.ixs (.s 0 .f0) (.c (.nat 1))) .nil) [(.mk 0 .f1)] [(.l 0)]) 
(.seq (.seq (.reg (.op (.fad 0 (.s 0 .f7)) (.op (.load (.l 0)) (.op (.ib .lss (.s 0 .f1) (.l 0)) (.gop (.l 0) false (.fad 1 (.s 0 .f7)) (.gop (.l 1) false (.load (.l 0)) (.gop (.l 2) false (.gp (.mv (.t 2))) (.gop (.l 3) false (.ib .lss (.l 1) (.l 0)) (.op (.pick (.l 4) (.c (.bool true)) (.l 0)) .nil)))))))) [(.mk 1 .f3)] [(.l 0)]) 
(.cond (.s 1 .f3) (.seq (.reg .nil [(.mk 1 .f2), (.mk 2 .f3)] [(.c (.nat 1)), (.c (.oth (.int .i32 (.ofNat 65533))))]) 
.ret) .skip)) 
(.seq (.seq (.reg (.op (.ib .leq (.s 0 .f4) (.c (.nat 2))) .nil) [(.mk 1 .f4)] [(.l 0)]) 
(.cond (.s 1 .f4) (.seq (.reg (.op (.ib .and (.s 0 .f5) (.c (.byt 31))) (.op (.ci .i32 (.l 0)) (.op (.ib .shl (.l 0) (.c (.u64 6))) (.op (.ib .and (.s 0 .f1) (.c (.byt 63))) (.op (.ci .i32 (.l 0)) (.op (.ib .or (.l 2) (.l 0)) .nil)))))) [(.mk 1 .f2), (.mk 2 .f3)] [(.c (.nat 2)), (.l 0)]) 
.ret) .skip)) 
(.seq (.reg (.op (.ixs (.s 0 .f0) (.c (.nat 2))) .nil) [(.mk 0 .f2)] [(.l 0)]) 
(.seq (.seq (.reg (.op (.ib .lss (.s 0 .f2) (.c (.byt 128))) (.gop (.l 0) false (.gp (.mv (.t 4))) (.gop (.l 1) false (.ib .lss (.c (.byt 191)) (.l 0)) (.op (.pick (.l 2) (.c (.bool true)) (.l 0)) .nil)))) [(.mk 1 .f7)] [(.l 0)]) 
(.cond (.s 1 .f7) (.seq (.reg .nil [(.mk 1 .f2), (.mk 2 .f3)] [(.c (.nat 1)), (.c (.oth (.int .i32 (.ofNat 65533))))]) 
.ret) .skip)) 
(.seq (.seq (.reg (.op (.ib .leq (.s 0 .f4) (.c (.nat 3))) .nil) [(.mk 2 .f0)] [(.l 0)]) 
(.cond (.s 2 .f0) (.seq (.reg (.op (.ib .and (.s 0 .f5) (.c (.byt 15))) (.op (.ci .i32 (.l 0)) (.op (.ib .shl (.l 0) (.c (.u64 12))) (.op (.ib .and (.s 0 .f1) (.c (.byt 63))) (.op (.ci .i32 (.l 0)) (.op (.ib .shl (.l 0) (.c (.u64 6))) (.op (.ib .or (.l 3) (.l 0)) (.op (.ib .and (.s 0 .f2) (.c (.byt 63))) (.op (.ci .i32 (.l 0)) (.op (.ib .or (.l 2) (.l 0)) .nil)))))))))) [(.mk 1 .f2), (.mk 2 .f3)] [(.c (.nat 3)), (.l 0)]) 
.ret) .skip)) 
(.seq (.reg (.op (.ixs (.s 0 .f0) (.c (.nat 3))) .nil) [(.mk 0 .f6)] [(.l 0)]) 
(.seq (.seq (.reg (.op (.ib .lss (.s 0 .f6) (.c (.byt 128))) (.gop (.l 0) false (.gp (.mv (.t 12))) (.gop (.l 1) false (.ib .lss (.c (.byt 191)) (.l 0)) (.op (.pick (.l 2) (.c (.bool true)) (.l 0)) .nil)))) [(.mk 2 .f2)] [(.l 0)]) 
(.cond (.s 2 .f2) (.seq (.reg .nil [(.mk 1 .f2), (.mk 2 .f3)] [(.c (.nat 1)), (.c (.oth (.int .i32 (.ofNat 65533))))]) 
.ret) .skip)) 
(.seq (.reg (.op (.ib .and (.s 0 .f5) (.c (.byt 7))) (.op (.ci .i32 (.l 0)) (.op (.ib .shl (.l 0) (.c (.u64 18))) (.op (.ib .and (.s 0 .f1) (.c (.byt 63))) (.op (.ci .i32 (.l 0)) (.op (.ib .shl (.l 0) (.c (.u64 12))) (.op (.ib .or (.l 3) (.l 0)) (.op (.ib .and (.s 0 .f2) (.c (.byt 63))) (.op (.ci .i32 (.l 0)) (.op (.ib .shl (.l 0) (.c (.u64 6))) (.op (.ib .or (.l 3) (.l 0)) (.op (.ib .and (.s 0 .f6) (.c (.byt 63))) (.op (.ci .i32 (.l 0)) (.op (.ib .or (.l 2) (.l 0)) .nil)))))))))))))) [(.mk 1 .f2), (.mk 2 .f3)] [(.c (.nat 4)), (.l 0)]) 
.ret)))))))))))))))))) }
theorem g89 : Good Tryd.prog 89 F89 := ⟨1, [], [0, 10, 11, 6, 8, 5, 12, 9, 7, 4, 3, 57, 59, 23, 45, 75, 77, 16, 98, 2], by kernel_rfl⟩
noncomputable def F90 : EFn := { init := (.n none none none none (some 0) none none none (.n none none none none none none none none (.n none none none none none none none none (.n none none (some 1) none none none none none (.n none none none none none none none none .nil))))), nargs := 2, res := [(.s (.mk 3 .f4))], body := (.seq (.reg .nil [(.mk 3 .f4)] [(.c (.nat 0))]) 
(.block 0 (.seq (.reg (.op (.ib .leq (.c (.oth (.int .i32 (.ofNat 0)))) (.s 3 .f2)) (.gop (.l 0) true (.gp (.mv (.t 52))) (.gop (.l 1) true (.ib .lss (.l 0) (.c (.oth (.int .i32 (.ofNat 128))))) (.op (.pick (.l 2) (.l 0) (.c (.bool false))) .nil)))) [(.mk 3 .f5)] [(.l 0)]) 
(.cond (.s 3 .f5) (.seq (.reg (.op (.ci .u8 (.s 3 .f2)) (.op (.call 25 [(.s 0 .f4), (.l 0)]) .nil)) [(.mk 3 .f4)] [(.l 0)]) 
.ret) (.seq (.reg (.op (.ib .eql (.s 3 .f2) (.c (.oth (.int .i32 (.ofNat 65533))))) .nil) [(.mk 4 .f0)] [(.l 0)]) 
(.cond (.s 4 .f0) (.seq (.seq .bad 
(.block 9 (.loop (.seq .bad 
(.seq (.cond (.s 2 .f1) .skip (.exit 9)) 
(.block 10 (.seq (.reg (.op (.ext (.s 1 .f4) 1) (.op (.ext (.s 1 .f4) 2) .nil)) [(.mk 2 .f0), (.mk 2 .f5)] [(.l 1), (.l 0)]) 
(.seq (.reg (.op (.ib .eql (.s 2 .f5) (.c (.oth (.int .i32 (.ofNat 65533))))) .nil) [(.mk 1 .f7)] [(.l 0)]) 
(.cond (.s 1 .f7) (.seq (.reg .nil [(.mk 3 .f4)] [(.s 2 .f0)]) 
.ret) .skip))))))))) 
(.seq (.reg .nil [(.mk 3 .f4)] [(.c (.oth (.int .i64 (.negSucc 0))))]) 
.ret)) (.seq (.reg (.op (.call 97 [(.s 3 .f2)]) (.op (.nt (.l 0)) .nil)) [(.mk 3 .f6)] [(.l 0)]) 
(.cond (.s 3 .f6) (.seq (.reg .nil [(.mk 3 .f4)] [(.c (.oth (.int .i64 (.negSucc 0))))]) 
.ret) (.seq (.reg (.op (.gp (.cis (.t 52))) .nil) [(.mk 0 .f0)] [(.l 0)]) 
(.seq (.reg (.op (.lens (.s 0 .f0)) (.op (.ib .sub (.l 0) (.c (.nat 1))) .nil)) [(.mk 0 .f5)] [(.l 0)]) 
(.seq (.reg .nil [(.mk 0 .f3)] [(.s 0 .f5)]) 
(.seq (.reg .nil [(.mk 1 .f2)] [(.c (.nat 0))]) 
(.seq (.block 1 (.loop (.seq (.seq (.reg (.op (.lens (.s 0 .f4)) (.op (.ib .lss (.s 0 .f3) (.l 0)) .nil)) [(.mk 3 .f0)] [(.l 0)]) 
(.cond (.s 3 .f0) .skip (.exit 1))) 
(.block 2 (.seq (.seq (.regD (.op none (.ixs (.s 0 .f4) (.s 0 .f3)) (.op none (.ixs (.s 0 .f0) (.s 0 .f5)) (.op none (.ib .neq (.l 1) (.l 0)) (.nil .nil)))) 0 [(.mk 3 .f1)] [(.l 0)]) 
(.cond (.s 3 .f1) (.seq (.regD (.op none (.ib .add (.s 0 .f3) (.c (.nat 1))) (.op none (.gp (.sls (some (.t 1)) none (.t 8))) (.op none (.ixs (.s 0 .f0) (.s 0 .f5)) (.nil (.op none none [] (.call 25 [(.l 1), (.l 0)]) .nil))))) 0 [(.mk 1 .f3)] [(.l 0)]) 
(.seq (.seq (.reg (.op (.ib .lss (.s 1 .f3) (.c (.nat 0))) .nil) [(.mk 1 .f5)] [(.l 0)]) 
(.cond (.s 1 .f5) (.seq (.reg .nil [(.mk 3 .f4)] [(.c (.oth (.int .i64 (.negSucc 0))))]) 
.ret) .skip)) 
(.reg (.op (.ib .add (.s 1 .f3) (.c (.nat 1))) (.op (.ib .add (.s 0 .f3) (.l 0)) .nil)) [(.mk 0 .f3)] [(.l 0)]))) .skip)) 
(.seq (.seq (.reg .nil [(.mk 0 .f1)] [(.c (.nat 1))]) 
(.block 3 (.loop (.seq (.seq (.reg (.op (.lens (.s 0 .f0)) (.op (.ib .lss (.s 0 .f1) (.l 0)) .nil)) [(.mk 0 .f6)] [(.l 0)]) 
(.cond (.s 0 .f6) .skip (.exit 3))) 
(.seq (.block 4 (.seq (.regD (.op none (.ib .sub (.s 0 .f3) (.s 0 .f1)) (.op none (.ixs (.s 0 .f4) (.l 0)) (.op none (.ib .sub (.s 0 .f5) (.s 0 .f1)) (.op none (.ixs (.s 0 .f0) (.l 0)) (.op none (.ib .neq (.l 2) (.l 0)) (.nil .nil)))))) 0 [(.mk 0 .f7)] [(.l 0)]) 
(.cond (.s 0 .f7) .bad .skip))) 
(.reg (.op (.ib .add (.s 0 .f1) (.c (.nat 1))) .nil) [(.mk 0 .f1)] [(.l 0)])))))) 
(.seq (.seq (.reg (.op (.ib .sub (.s 0 .f3) (.s 0 .f5)) .nil) [(.mk 3 .f4)] [(.l 0)]) 
.ret) 
(.seq .skip 
(.seq (.reg (.op (.ib .add (.s 1 .f2) (.c (.nat 1))) .nil) [(.mk 1 .f2)] [(.l 0)]) 
(.seq (.reg (.op (.ib .add (.s 0 .f3) (.c (.nat 1))) .nil) [(.mk 0 .f3)] [(.l 0)]) 
(.seq (.reg (.gop (.c (.bool true)) true (.gp (.mv (.t 20))) (.gop (.c (.bool true)) true (.gp (.mv (.t 6))) (.gop (.c (.bool true)) true (.call 98 [(.l 0)]) (.gop (.c (.bool true)) true (.ib .gtr (.l 2) (.l 0)) (.op (.pick (.c (.bool true)) (.l 0) (.c (.bool false))) (.gop (.l 0) true (.gp (.mv (.t 6))) (.gop (.l 1) true (.gp (.mv (.t 8))) (.gop (.l 2) true (.lens (.l 0)) (.gop (.l 3) true (.ib .lss (.l 2) (.l 0)) (.op (.pick (.l 4) (.l 0) (.c (.bool false))) (.gop (.l 0) false (.gp (.mv (.c (.bool false)))) (.gop (.l 0) true (.gp (.mv (.t 20))) (.gop (.l 1) true (.gp (.mv (.t 6))) (.gop (.l 2) true (.ib .shr (.l 0) (.c (.u64 4))) (.gop (.l 3) true (.ib .add (.c (.nat 4)) (.l 0)) (.gop (.l 4) true (.ib .geq (.l 3) (.l 0)) (.gop (.l 6) false (.pick (.l 5) (.l 0) (.c (.bool false))) (.gop (.l 7) false (.gp (.mv (.t 1))) (.gop (.l 0) true (.gp (.mv (.t 6))) (.gop (.l 1) true (.gp (.mv (.t 8))) (.gop (.l 2) true (.lens (.l 0)) (.gop (.l 3) true (.ib .lss (.l 2) (.l 0)) (.gop (.l 12) false (.pick (.l 4) (.l 0) (.c (.bool false))) (.op (.pick (.l 13) (.c (.bool true)) (.l 0)) .nil)))))))))))))))))))))))) [(.mk 2 .f3)] [(.l 0)]) 
(.cond (.s 2 .f3) .bad .skip)))))))))))) 
(.seq (.seq (.reg .nil [(.mk 3 .f4)] [(.c (.oth (.int .i64 (.negSucc 0))))]) 
.ret) 
(.seq .skip 
(.seq (.cond (.c (.bool true)) (.seq (.reg (.op (.ib .sub (.s 0 .f3) (.s 0 .f5)) (.op (.gp (.sls (some (.t 1)) none (.t 8))) (.op (.gp (.cis (.t 52))) (.op (.call 99 [(.l 1), (.l 0)]) .nil)))) [(.mk 3 .f3)] [(.l 0)]) 
(.seq (.reg (.op (.ib .geq (.s 3 .f3) (.c (.nat 0))) .nil) [(.mk 3 .f7)] [(.l 0)]) 
(.cond (.s 3 .f7) (.seq (.reg (.op (.ib .add (.s 0 .f3) (.s 3 .f3)) (.op (.ib .sub (.l 0) (.s 0 .f5)) .nil)) [(.mk 3 .f4)] [(.l 0)]) 
.ret) .skip))) (.seq (.reg (.op (.ixs (.s 0 .f0) (.s 0 .f5)) .nil) [(.mk 1 .f6)] [(.l 0)]) 
(.seq (.reg (.op (.ib .sub (.s 0 .f5) (.c (.nat 1))) (.op (.ixs (.s 0 .f0) (.l 0)) .nil)) [(.mk 2 .f6)] [(.l 0)]) 
(.seq .skip 
(.block 5 (.loop (.seq (.seq (.reg (.op (.lens (.s 0 .f4)) (.op (.ib .lss (.s 0 .f3) (.l 0)) .nil)) [(.mk 2 .f4)] [(.l 0)]) 
(.cond (.s 2 .f4) .skip (.exit 5))) 
(.seq (.block 6 (.seq (.reg (.op (.ixs (.s 0 .f4) (.s 0 .f3)) (.op (.ib .eql (.l 0) (.s 1 .f6)) (.gop (.l 0) true (.gp (.mv (.t 8))) (.gop (.l 1) true (.gp (.mv (.t 6))) (.gop (.l 2) true (.ib .sub (.l 0) (.c (.nat 1))) (.gop (.l 3) true (.ixs (.l 2) (.l 0)) (.gop (.l 4) true (.gp (.mv (.t 44))) (.gop (.l 5) true (.ib .eql (.l 1) (.l 0)) (.op (.pick (.l 6) (.l 0) (.c (.bool false))) .nil))))))))) [(.mk 2 .f7)] [(.l 0)]) 
(.cond (.s 2 .f7) (.seq (.seq (.reg .nil [(.mk 0 .f2)] [(.c (.nat 2))]) 
(.block 7 (.loop (.seq (.seq (.reg (.op (.lens (.s 0 .f0)) (.op (.ib .lss (.s 0 .f2) (.l 0)) .nil)) [(.mk 1 .f1)] [(.l 0)]) 
(.cond (.s 1 .f1) .skip (.exit 7))) 
(.seq (.block 8 (.seq (.regD (.op none (.ib .sub (.s 0 .f3) (.s 0 .f2)) (.op none (.ixs (.s 0 .f4) (.l 0)) (.op none (.ib .sub (.s 0 .f5) (.s 0 .f2)) (.op none (.ixs (.s 0 .f0) (.l 0)) (.op none (.ib .neq (.l 2) (.l 0)) (.nil .nil)))))) 0 [(.mk 1 .f0)] [(.l 0)]) 
(.cond (.s 1 .f0) (.exit 6) .skip))) 
(.reg (.op (.ib .add (.s 0 .f2) (.c (.nat 1))) .nil) [(.mk 0 .f2)] [(.l 0)])))))) 
(.seq (.reg (.op (.ib .sub (.s 0 .f3) (.s 0 .f5)) .nil) [(.mk 3 .f4)] [(.l 0)]) 
.ret)) .skip))) 
(.reg (.op (.ib .add (.s 0 .f3) (.c (.nat 1))) .nil) [(.mk 0 .f3)] [(.l 0)]))))))))) 
(.seq (.reg .nil [(.mk 3 .f4)] [(.c (.oth (.int .i64 (.negSucc 0))))]) 
.ret))))))))))))))))) }
theorem g90 : Good Tryd.prog 90 F90 := ⟨2, [(6, [(0, false), (1, false), (2, false), (3, false), (4, false), (5, false), (6, false)]), (7, [(0, false), (1, false), (2, false), (3, false), (4, false), (5, false), (6, false), (7, false), (8, false)]), (14, [(0, false), (1, false), (2, false), (3, false), (4, false), (5, false), (6, false), (7, false), (8, false), (9, false), (10, false)]), (31, [(0, false), (1, false), (2, false), (3, false), (4, false), (5, false), (6, false), (7, false), (8, false), (9, false), (10, false)])], [7, 12, 16, 9, 0, 8, 51, 64, 156, 143, 10, 11, 176, 43, 14, 181, 5, 177, 175, 98, 124, 6, 15, 139, 26, 33, 1, 13, 4, 160, 183, 108, 171], by kernel_rfl⟩
noncomputable def F47 : EFn := { init := (.n none none (some 2) none none none (some 0) (some 1) (.n none none none none none none none none .nil)), nargs := 3, res := [(.cells (.mk 0 .f1) 4), (.s (.mk 0 .f5))], body := (.seq (.reg (.op (.box (.s 0 .f6)) (.op (.box (.s 0 .f7)) (.op (.zal [(.nat 0), (.nat 0), (.oth .nilSlc), (.oth .nilSlc)] 4) .nil))) [(.mk 0 .f0), (.mk 0 .f1), (.mk 0 .f3), (.mk 0 .f5)] [(.l 2), (.l 0), (.l 1), (.c (.nat 0))]) 
(.seq (.seq (.reg (.op (.loadn 4 (.s 0 .f0)) (.op (.call 13 [(.l 0)]) .nil)) [(.mk 0 .f4)] [(.l 0)]) 
(.seq (.reg (.op (.ib .neq (.s 0 .f4) (.c (.nat 0))) .nil) [(.mk 1 .f1)] [(.l 0)]) 
(.cond (.s 1 .f1) (.seq (.reg (.op (.gp (.build [(.int .i64 (.ofNat 0)), (.int .i64 (.ofNat 0)), .nilSlc, .nilSlc] [])) (.op (.store 4 (.s 0 .f1) (.l 0)) .nil)) [(.mk 0 .f5)] [(.s 0 .f4)]) 
.ret) .skip))) 
(.seq (.block 0 (.seq (.reg (.op (.load (.s 0 .f3)) (.op (.ib .lss (.l 0) (.c (.nat 0))) (.gop (.l 0) false (.load (.s 0 .f3)) (.gop (.l 1) false (.fad 0 (.s 0 .f0)) (.gop (.l 2) false (.load (.l 0)) (.gop (.l 3) false (.ib .geq (.l 2) (.l 0)) (.op (.pick (.l 4) (.c (.bool true)) (.l 0)) .nil))))))) [(.mk 1 .f0)] [(.l 0)]) 
(.cond (.s 1 .f0) (.seq (.reg (.op (.gp (.build [(.int .i64 (.ofNat 0)), (.int .i64 (.ofNat 0)), .nilSlc, .nilSlc] [])) (.op (.store 4 (.s 0 .f1) (.l 0)) .nil)) [(.mk 0 .f5)] [(.c (.nat 7))]) 
.ret) (.seq (.reg (.op (.ib .lss (.s 0 .f2) (.c (.nat 1))) (.gop (.l 0) false (.gp (.mv (.t 4))) (.gop (.l 1) false (.ib .gtr (.l 0) (.c (.nat 64))) (.op (.pick (.l 2) (.c (.bool true)) (.l 0)) .nil)))) [(.mk 1 .f2)] [(.l 0)]) 
(.cond (.s 1 .f2) (.seq (.reg (.op (.gp (.build [(.int .i64 (.ofNat 0)), (.int .i64 (.ofNat 0)), .nilSlc, .nilSlc] [])) (.op (.store 4 (.s 0 .f1) (.l 0)) .nil)) [(.mk 0 .f5)] [(.c (.nat 1))]) 
.ret) .skip))))) 
(.seq (.regD (.op none (.fad 0 (.s 0 .f0)) (.op none (.fad 1 (.s 0 .f0)) (.op none (.mkf 71 [] [(.s 0 .f0), (.s 0 .f3)]) (.op none (.load (.l 2)) (.op none (.load (.l 2)) (.op none (.ib .shl (.c (.u64 1)) (.l 0)) (.nil (.op none none [] (.call 70 [(.l 2), (.s 0 .f2), (.l 0), (.l 3)]) (.op none none [] (.ext (.l 0) 0) (.op none none [] (.ext (.l 1) 1) (.op none none [] (.ext (.l 2) 2) .nil))))))))))) 0 [(.mk 1 .f3), (.mk 1 .f5), (.mk 1 .f6)] [(.l 0), (.l 2), (.l 1)]) 
(.seq (.seq (.reg (.op (.nt (.s 1 .f3)) .nil) [(.mk 1 .f4)] [(.l 0)]) 
(.cond (.s 1 .f4) (.seq (.reg (.op (.gp (.build [(.int .i64 (.ofNat 0)), (.int .i64 (.ofNat 0)), .nilSlc, .nilSlc] [])) (.op (.store 4 (.s 0 .f1) (.l 0)) .nil)) [(.mk 0 .f5)] [(.c (.nat 10))]) 
.ret) .skip)) 
(.seq (.reg (.op (.fad 0 (.s 0 .f0)) (.op (.load (.l 0)) (.op (.mkf 74 [] [(.s 0 .f0)]) (.op (.call 73 [(.l 1), (.s 1 .f5), (.s 1 .f6), (.l 0)]) (.op (.ext (.l 0) 0) (.op (.ext (.l 1) 1) (.op (.store 4 (.s 0 .f1) (.l 1)) .nil))))))) [(.mk 0 .f5)] [(.l 1)]) 
.ret)))))) }
theorem g47 : Good Tryd.prog 47 F47 := ⟨3, [(8, [(0, false), (2, false), (3, false), (6, false), (1, false), (4, false), (5, false), (7, false), (8, false), (9, false), (10, false), (11, false), (12, false), (13, false), (14, false)])], [3, 6, 2, 4, 8, 7, 0, 1, 18, 15, 28, 11, 49, 9, 10], by kernel_rfl⟩
noncomputable def F77 : EFn := { init := (.n (some 0) none none none none none none none .nil), nargs := 1, res := [(.s (.mk 0 .f1))], body := (.seq (.reg .nil [(.mk 0 .f1)] [(.c (.oth .nilSlc))]) 
(.seq (.seq (.reg (.op (.eq 0 0 .slcn false (.s 0 .f0) (.c (.oth .nilSlc))) .nil) [(.mk 0 .f2)] [(.l 0)]) 
(.cond (.s 0 .f2) (.seq (.reg .nil [(.mk 0 .f1)] [(.c (.oth .nilSlc))]) 
.ret) .skip)) 
(.seq (.reg (.op (.bsv 0 1 []) (.op (.app 1 1 (.l 0) (.s 0 .f0)) .nil)) [(.mk 0 .f1)] [(.l 0)]) 
.ret))) }
theorem g77 : Good Tryd.prog 77 F77 := ⟨1, [], [0, 2, 4], by kernel_rfl⟩
noncomputable def F79 : EFn := { init := (.n none none (some 2) none (some 3) (some 1) (some 0) (some 4) .nil), nargs := 5, res := [(.cells (.mk 0 .f0) 2)], body := (.seq (.reg (.op (.box (.s 0 .f6)) (.op (.box (.s 0 .f5)) (.op (.zal [(.nat 0), (.nat 0)] 2) .nil))) [(.mk 0 .f0), (.mk 0 .f1), (.mk 0 .f3)] [(.l 0), (.l 2), (.l 1)]) 
(.seq (.regD (.op none (.fad 2 (.s 0 .f4)) (.op none (.gp (.iada 2 1 (.t 2) (.c (.int .i64 (.ofNat 0))))) (.op none (.gp (.iada 2 1 (.t 6) (.c (.int .i64 (.ofNat 0))))) (.op none (.fad 2 (.s 0 .f7)) (.op none (.gp (.iada 2 1 (.t 2) (.c (.int .i64 (.ofNat 1))))) (.op none (.gp (.iada 2 1 (.t 6) (.c (.int .i64 (.ofNat 1))))) (.op none (.load (.l 5)) (.op none (.load (.l 5)) (.op none (.iad 1 (.l 1) (.l 0)) (.op none (.load (.l 0)) (.op none (.load (.l 7)) (.op none (.iad 1 (.l 1) (.l 0)) (.op none (.load (.l 0)) (.op none (.iad 1 (.l 0) (.s 0 .f2)) (.op none (.load (.l 0)) (.op none (.load (.l 11)) (.op none (.load (.l 11)) (.op none (.iad 1 (.l 1) (.l 0)) (.op none (.load (.l 0)) (.op none (.load (.l 13)) (.op none (.iad 1 (.l 1) (.l 0)) (.op none (.load (.l 0)) (.op none (.iad 1 (.l 0) (.s 0 .f2)) (.op none (.load (.l 0)) (.op none (.gp (.build [(.int .i64 (.ofNat 0)), (.int .i64 (.ofNat 0))] [(0, 1, (.t 19)), (1, 1, (.t 1))])) (.nil (.op none none [] (.store 2 (.s 0 .f0) (.l 0)) .nil))))))))))))))))))))))))))) 0 [] []) 
.ret)) }
theorem g79 : Good Tryd.prog 79 F79 := ⟨5, [(1, [(0, false), (2, false), (6, false), (10, false), (13, false), (15, false), (19, false), (23, false), (1, false), (3, false), (4, false), (5, false), (7, false), (8, false), (9, false), (11, false), (12, false), (14, false), (16, false), (17, false), (18, false), (20, false), (21, false), (22, false), (24, false), (25, false), (26, false), (27, false)])], [8, 5, 2, 6, 3, 1, 0, 4], by kernel_rfl⟩
noncomputable def F78 : EFn := { init := (.n none none none none none none none none (.n none none none (some 1) none none none none (.n none (some 2) (some 0) (some 3) none none none none .nil))), nargs := 4, res := [(.cell (.mk 1 .f0)), (.s (.mk 0 .f3)), (.s (.mk 1 .f5))], body := (.seq (.reg (.op (.box (.s 2 .f2)) (.op (.box (.s 2 .f1)) (.op (.box (.s 2 .f3)) (.op (.zal [(.oth .nilSlc)] 1) .nil)))) [(.mk 0 .f3), (.mk 1 .f0), (.mk 1 .f4), (.mk 1 .f5), (.mk 1 .f6), (.mk 2 .f0)] [(.c (.oth .nilSlc)), (.l 0), (.l 2), (.c (.bool false)), (.l 3), (.l 1)]) 
(.seq (.reg (.op .mkm (.op (.loadn 2 (.s 1 .f4)) (.op (.mup 3 2 (.arr 2 1 false .int) (.l 1) (.l 0) (.c (.nat 0))) (.op (.zal [(.oth .nilMap)] 1) (.op (.store1 (.l 0) (.l 3)) .nil))))) [(.mk 2 .f4)] [(.l 1)]) 
(.seq (.reg (.op (.loadn 2 (.s 1 .f4)) (.op (.bsl 1 2 [(.int .i64 (.ofNat 0)), (.int .i64 (.ofNat 0))] [(0, 2, (.l 0))]) (.op (.store1 (.s 1 .f0) (.l 0)) .nil))) [] []) 
(.seq (.reg (.op (.mkf 94 [] [(.s 2 .f4), (.s 1 .f0)]) (.op (.zal [(.oth .nilFn)] 1) (.op (.store1 (.l 0) (.l 1)) .nil))) [(.mk 1 .f7)] [(.l 1)]) 
(.seq (.reg (.op (.mkf 95 [] [(.s 1 .f6), (.s 1 .f7), (.s 2 .f0), (.s 1 .f0)]) .nil) [(.mk 0 .f4)] [(.l 0)]) 
(.seq (.seq (.reg .nil [(.mk 0 .f2)] [(.c (.nat 0))]) 
(.block 0 (.loop (.seq (.seq (.reg (.op (.load (.s 1 .f0)) (.op (.lenl (.l 0)) (.op (.ib .lss (.s 0 .f2) (.l 0)) .nil))) [(.mk 1 .f1)] [(.l 0)]) 
(.cond (.s 1 .f1) .skip (.exit 0))) 
(.seq (.block 1 (.seq (.reg .nil [(.mk 0 .f5)] [(.c (.oth .nilSlc))]) 
(.seq (.seq (.reg .nil [(.mk 0 .f1), (.mk 0 .f6)] [(.c (.nat 0)), (.s 0 .f2)]) 
(.block 2 (.loop (.seq (.reg (.op (.ib .lss (.s 0 .f1) (.s 0 .f6)) .nil) [(.mk 0 .f7)] [(.l 0)]) 
(.seq (.cond (.s 0 .f7) .skip (.exit 2)) 
(.seq (.block 3 (.seq (.reg .nil [(.mk 0 .f0)] [(.s 0 .f1)]) 
(.seq (.reg (.op (.iad 1 (.s 0 .f3) (.s 0 .f0)) (.op (.load (.l 0)) (.op (.callv (.s 0 .f4) [(.l 0), (.s 0 .f0), (.s 0 .f2)]) (.op (.iad 1 (.s 0 .f3) (.s 0 .f0)) (.op (.store1 (.l 0) (.l 1)) .nil))))) [] []) 
(.reg (.op (.callv (.s 0 .f4) [(.s 0 .f5), (.s 0 .f2), (.s 0 .f0)]) .nil) [(.mk 0 .f5)] [(.l 0)])))) 
(.reg (.op (.ib .add (.s 0 .f1) (.c (.nat 1))) .nil) [(.mk 0 .f1)] [(.l 0)]))))))) 
(.seq (.reg (.op (.callv (.s 0 .f4) [(.s 0 .f5), (.s 0 .f2), (.s 0 .f2)]) (.op (.bsv 1 1 [(.l 0)]) (.op (.app 1 24 (.s 0 .f3) (.l 0)) .nil))) [(.mk 0 .f3)] [(.l 0)]) 
(.seq (.reg (.op (.load (.s 1 .f0)) (.op (.lenl (.l 0)) (.op (.ib .gtr (.l 0) (.s 1 .f3)) .nil))) [(.mk 1 .f2)] [(.l 0)]) 
(.cond (.s 1 .f2) (.seq (.reg (.op (.store1 (.s 1 .f0) (.c (.oth .nilSlc))) .nil) [(.mk 0 .f3), (.mk 1 .f5)] [(.c (.oth .nilSlc)), (.c (.bool false))]) 
.ret) .skip)))))) 
(.reg (.op (.ib .add (.s 0 .f2) (.c (.nat 1))) .nil) [(.mk 0 .f2)] [(.l 0)])))))) 
(.seq (.reg (.op (.load (.s 1 .f0)) (.op (.store1 (.s 1 .f0) (.l 0)) .nil)) [(.mk 1 .f5)] [(.c (.bool true))]) 
.ret))))))) }
theorem g78 : Good Tryd.prog 78 F78 := ⟨4, [], [16, 31, 14, 9, 13, 15, 30, 32, 8, 27, 62, 1, 6, 10, 4, 12, 7, 2, 0, 3, 11], by kernel_rfl⟩
noncomputable def F81 : EFn := { init := (.n none none (some 2) (some 0) (some 3) (some 1) none none .nil), nargs := 4, res := [(.s (.mk 0 .f1))], body := (.seq (.reg (.op (.box (.s 0 .f3)) .nil) [(.mk 0 .f0), (.mk 0 .f1)] [(.l 0), (.c (.bool false))]) 
(.seq (.regD (.op none (.fad 3 (.s 0 .f2)) (.op none (.gp (.iada 2 1 (.t 0) (.c (.int .i64 (.ofNat 0))))) (.op none (.fad 3 (.s 0 .f4)) (.op none (.gp (.iada 2 1 (.t 0) (.c (.int .i64 (.ofNat 1))))) (.op none (.load (.s 0 .f5)) (.op none (.load (.l 4)) (.op none (.load (.l 4)) (.op none (.iad 1 (.l 1) (.l 0)) (.op none (.load (.l 0)) (.op none (.load (.l 6)) (.op none (.load (.l 6)) (.op none (.iad 1 (.l 1) (.l 0)) (.op none (.load (.l 0)) (.nil (.op none none [] (.callv (.l 8) [(.l 4), (.l 0)]) .nil))))))))))))))) 0 [(.mk 0 .f1)] [(.l 0)]) 
.ret)) }
theorem g81 : Good Tryd.prog 81 F81 := ⟨4, [(1, [(1, false), (3, false), (7, false), (9, false), (0, false), (2, false), (4, false), (5, false), (6, false), (8, false), (10, false), (11, false), (12, false), (13, false), (14, false)])], [4, 5, 2, 0, 3, 1], by kernel_rfl⟩
noncomputable def F80 : EFn := { init := (.n none none none none none none (some 3) none (.n none (some 0) (some 2) (some 1) none none none none .nil)), nargs := 4, res := [(.cells (.mk 0 .f7) 4), (.s (.mk 1 .f0))], body := (.seq (.reg (.op (.zal [(.nat 0), (.nat 0), (.oth .nilSlc), (.oth .nilSlc)] 4) .nil) [(.mk 0 .f7), (.mk 1 .f0)] [(.l 0), (.c (.nat 0))]) 
(.seq (.reg (.op (.gp (.build [(.int .i64 (.ofNat 0)), (.int .i64 (.ofNat 0)), .nilSlc, .nilSlc] [(0, 1, (.t 18)), (2, 1, (.t 20))])) (.op (.zal [(.nat 0), (.nat 0), (.oth .nilSlc), (.oth .nilSlc)] 4) (.op (.store 4 (.l 0) (.l 1)) .nil))) [(.mk 0 .f1)] [(.l 1)]) 
(.seq (.seq (.reg (.op (.lenl (.s 1 .f3)) .nil) [(.mk 0 .f0), (.mk 0 .f3), (.mk 0 .f4)] [(.c (.nat 0)), (.l 0), (.s 1 .f3)]) 
(.block 0 (.loop (.seq (.reg (.op (.ib .lss (.s 0 .f0) (.s 0 .f3)) .nil) [(.mk 0 .f2)] [(.l 0)]) 
(.seq (.cond (.s 0 .f2) .skip (.exit 0)) 
(.seq (.block 1 (.seq (.reg (.op (.iad 2 (.s 0 .f4) (.s 0 .f0)) (.op (.loadn 2 (.l 0)) (.op (.zal [(.nat 0), (.nat 0)] 2) (.op (.store 2 (.l 0) (.l 1)) .nil)))) [(.mk 0 .f5)] [(.l 1)]) 
(.regD (.op none (.fad 3 (.s 0 .f1)) (.fl1 1 (.l 0) (.op none (.loadn 2 (.s 0 .f5)) (.nil (.op none none [1] (.callv (.s 0 .f6) [(.l 0)]) (.op none (some 0) [1] (.bsv 1 1 [(.l 0)]) (.op none (some 1) [] (.app 1 1 (.l 3) (.l 0)) (.op none none [] (.fad 3 (.s 0 .f1)) (.op none none [] (.store1 (.l 0) (.l 1)) .nil))))))))) 2 [] []))) 
(.reg (.op (.ib .add (.s 0 .f0) (.c (.nat 1))) .nil) [(.mk 0 .f0)] [(.l 0)]))))))) 
(.seq (.reg (.op (.loadn 4 (.s 0 .f1)) (.op (.call 41 [(.l 0)]) (.op (.ext (.l 0) 0) (.op (.ext (.l 1) 1) (.op (.store 4 (.s 0 .f7) (.l 1)) .nil))))) [(.mk 1 .f0)] [(.l 1)]) 
.ret)))) }
theorem g80 : Good Tryd.prog 80 F80 := ⟨4, [(5, [(0, false), (1, true), (2, false), (3, false), (4, false), (5, false), (6, false), (7, false), (8, false)])], [18, 10, 19, 17, 16, 12, 3, 8, 9, 0, 2, 1], by kernel_rfl⟩
noncomputable def F96 : EFn := { init := (.n none (some 0) none none none none none none .nil), nargs := 1, res := [(.s (.mk 0 .f0))], body := (.seq (.reg .nil [(.mk 0 .f0)] [(.c (.str 0 0))]) 
(.seq (.seq (.reg .nil [(.mk 0 .f2)] [(.s 0 .f1)]) 
(.cond (.s 0 .f2) (.seq (.reg .nil [(.mk 0 .f0)] [(.c (.str 4 1702195828))]) 
.ret) .skip)) 
(.seq (.reg .nil [(.mk 0 .f0)] [(.c (.str 5 435728179558))]) 
.ret))) }
theorem g96 : Good Tryd.prog 96 F96 := ⟨1, [], [2, 0, 3], by kernel_rfl⟩
noncomputable def F97 : EFn := { init := (.n (some 0) none none none none none none none .nil), nargs := 1, res := [(.s (.mk 0 .f1))], body := (.seq (.reg .nil [(.mk 0 .f1)] [(.c (.bool false))]) 
(.seq (.block 0 (.seq (.reg (.op (.ib .leq (.c (.oth (.int .i32 (.ofNat 0)))) (.s 0 .f0)) (.gop (.l 0) true (.gp (.mv (.t 0))) (.gop (.l 1) true (.ib .lss (.l 0) (.c (.oth (.int .i32 (.ofNat 55296))))) (.op (.pick (.l 2) (.l 0) (.c (.bool false))) .nil)))) [(.mk 0 .f2)] [(.l 0)]) 
(.cond (.s 0 .f2) (.seq (.reg .nil [(.mk 0 .f1)] [(.c (.bool true))]) 
.ret) (.seq (.reg (.op (.ib .lss (.c (.oth (.int .i32 (.ofNat 57343)))) (.s 0 .f0)) (.gop (.l 0) true (.gp (.mv (.t 0))) (.gop (.l 1) true (.ib .leq (.l 0) (.c (.oth (.int .i32 (.ofNat 1114111))))) (.op (.pick (.l 2) (.l 0) (.c (.bool false))) .nil)))) [(.mk 0 .f3)] [(.l 0)]) 
(.cond (.s 0 .f3) (.seq (.reg .nil [(.mk 0 .f1)] [(.c (.bool true))]) 
.ret) .skip))))) 
(.seq (.reg .nil [(.mk 0 .f1)] [(.c (.bool false))]) 
.ret))) }
theorem g97 : Good Tryd.prog 97 F97 := ⟨1, [], [0, 2, 3, 10], by kernel_rfl⟩
noncomputable def F98 : EFn := { init := (.n none (some 0) none none none none none none .nil), nargs := 1, res := [(.s (.mk 0 .f0))], body := (.seq (.reg .nil [(.mk 0 .f0)] [(.c (.nat 0))]) 
(.seq (.reg (.op (.ib .add (.s 0 .f1) (.c (.nat 16))) (.op (.ib .quo (.l 0) (.c (.nat 8))) .nil)) [(.mk 0 .f0)] [(.l 0)]) 
.ret)) }
theorem g98 : Good Tryd.prog 98 F98 := ⟨1, [], [2, 0], by kernel_rfl⟩
noncomputable def F71 : EFn := { init := (.n none none (some 4) (some 2) none none none none (.n none (some 3) none none (some 1) none none none (.n (some 0) none none none none none none none .nil))), nargs := 5, res := [(.s (.mk 0 .f4))], body := (.seq (.reg .nil [(.mk 0 .f4)] [(.c (.u64 0))]) 
(.seq (.seq (.reg (.op (.call 72 [(.s 2 .f0)]) (.op (.lenl (.l 0)) .nil)) [(.mk 1 .f3), (.mk 1 .f6), (.mk 1 .f7)] [(.c (.nat 0)), (.l 0), (.l 1)]) 
(.block 0 (.loop (.seq (.reg (.op (.ib .lss (.s 1 .f3) (.s 1 .f6)) .nil) [(.mk 1 .f5)] [(.l 0)]) 
(.seq (.cond (.s 1 .f5) .skip (.exit 0)) 
(.seq (.block 1 (.seq (.reg (.op (.iad 1 (.s 1 .f7) (.s 1 .f3)) (.op (.load (.l 0)) .nil)) [(.mk 0 .f7)] [(.l 0)]) 
(.seq (.reg (.op (.call 72 [(.s 1 .f4)]) (.op (.lenl (.l 0)) .nil)) [(.mk 0 .f0), (.mk 0 .f6), (.mk 1 .f0)] [(.c (.nat 0)), (.l 1), (.l 0)]) 
(.block 2 (.loop (.seq (.reg (.op (.ib .lss (.s 0 .f0) (.s 1 .f0)) .nil) [(.mk 0 .f5)] [(.l 0)]) 
(.seq (.cond (.s 0 .f5) .skip (.exit 2)) 
(.seq (.block 3 (.seq (.reg (.op (.iad 1 (.s 0 .f6) (.s 0 .f0)) (.op (.load (.l 0)) .nil)) [(.mk 1 .f2)] [(.l 0)]) 
(.seq (.reg (.op (.fad 2 (.s 1 .f1)) (.op (.load (.l 0)) (.op (.iad 1 (.l 0) (.s 0 .f7)) (.op (.load (.l 0)) (.op (.iad 1 (.l 0) (.s 1 .f2)) (.op (.load (.l 0)) .nil)))))) [(.mk 0 .f1)] [(.l 0)]) 
(.regD (.op none (.load (.s 0 .f2)) (.op none (.ib .shl (.c (.nat 1)) (.l 0)) (.op none (.ib .andNot (.s 0 .f3) (.l 0)) (.op none (.iad 1 (.s 0 .f1) (.l 0)) (.op none (.load (.l 0)) (.op none (.ib .shl (.c (.u64 1)) (.l 0)) (.op none (.load (.s 0 .f2)) (.op none (.ib .shl (.c (.nat 1)) (.l 0)) (.op none (.ib .or (.s 0 .f3) (.l 0)) (.op none (.iad 1 (.s 0 .f1) (.l 0)) (.op none (.load (.l 0)) (.op none (.ib .shl (.c (.u64 1)) (.l 0)) (.op none (.ib .or (.l 6) (.l 0)) (.op none (.ib .or (.s 0 .f4) (.l 0)) (.nil .nil))))))))))))))) 0 [(.mk 0 .f4)] [(.l 0)])))) 
(.reg (.op (.ib .add (.s 0 .f0) (.c (.nat 1))) .nil) [(.mk 0 .f0)] [(.l 0)]))))))))) 
(.reg (.op (.ib .add (.s 1 .f3) (.c (.nat 1))) .nil) [(.mk 1 .f3)] [(.l 0)]))))))) 
(.seq (.reg .nil [] []) 
.ret))) }
theorem g71 : Good Tryd.prog 71 F71 := ⟨5, [(8, [(0, false), (1, false), (2, false), (9, false), (10, false), (3, false), (4, false), (5, false), (6, false), (7, false), (8, false), (11, false), (12, false), (13, false), (14, false), (15, false), (16, false), (17, false), (18, false), (19, false)])], [24, 13, 4, 2, 8, 25, 22, 10, 23, 3, 12, 17, 1, 18, 16, 15, 0], by kernel_rfl⟩
noncomputable def F70 : EFn := { init := (.n none none none none none none none none (.n none none none (some 1) (some 2) none none (some 3) (.n (some 0) none none none none none none none .nil))), nargs := 4, res := [(.cell (.mk 1 .f0)), (.s (.mk 0 .f3)), (.s (.mk 1 .f5))], body := (.seq (.reg (.op (.box (.s 2 .f0)) (.op (.box (.s 1 .f7)) (.op (.zal [(.oth .nilSlc)] 1) .nil))) [(.mk 0 .f3), (.mk 1 .f0), (.mk 1 .f5), (.mk 1 .f6), (.mk 2 .f2)] [(.c (.oth .nilSlc)), (.l 0), (.c (.bool false)), (.l 1), (.l 2)]) 
(.seq (.reg (.op .mkm (.op (.mup 1 0 .int (.l 0) (.s 1 .f4) (.c (.nat 0))) (.op (.zal [(.oth .nilMap)] 1) (.op (.store1 (.l 0) (.l 2)) .nil)))) [(.mk 2 .f1)] [(.l 1)]) 
(.seq (.reg (.op (.bsv 1 1 [(.s 1 .f4)]) (.op (.store1 (.s 1 .f0) (.l 0)) .nil)) [] []) 
(.seq (.reg (.op (.mkf 91 [] [(.s 2 .f1), (.s 1 .f0)]) (.op (.zal [(.oth .nilFn)] 1) (.op (.store1 (.l 0) (.l 1)) .nil))) [(.mk 2 .f3)] [(.l 1)]) 
(.seq (.reg (.op (.mkf 92 [] [(.s 2 .f2), (.s 2 .f3), (.s 1 .f6), (.s 1 .f0)]) .nil) [(.mk 0 .f4)] [(.l 0)]) 
(.seq (.seq (.reg .nil [(.mk 0 .f2)] [(.c (.nat 0))]) 
(.block 0 (.loop (.seq (.seq (.reg (.op (.load (.s 1 .f0)) (.op (.lenl (.l 0)) (.op (.ib .lss (.s 0 .f2) (.l 0)) .nil))) [(.mk 1 .f1)] [(.l 0)]) 
(.cond (.s 1 .f1) .skip (.exit 0))) 
(.seq (.block 1 (.seq (.reg .nil [(.mk 0 .f5)] [(.c (.oth .nilSlc))]) 
(.seq (.seq (.reg .nil [(.mk 0 .f1), (.mk 0 .f6)] [(.c (.nat 0)), (.s 0 .f2)]) 
(.block 2 (.loop (.seq (.reg (.op (.ib .lss (.s 0 .f1) (.s 0 .f6)) .nil) [(.mk 0 .f7)] [(.l 0)]) 
(.seq (.cond (.s 0 .f7) .skip (.exit 2)) 
(.seq (.block 3 (.seq (.reg .nil [(.mk 0 .f0)] [(.s 0 .f1)]) 
(.seq (.reg (.op (.iad 1 (.s 0 .f3) (.s 0 .f0)) (.op (.load (.l 0)) (.op (.callv (.s 0 .f4) [(.l 0), (.s 0 .f0), (.s 0 .f2)]) (.op (.iad 1 (.s 0 .f3) (.s 0 .f0)) (.op (.store1 (.l 0) (.l 1)) .nil))))) [] []) 
(.reg (.op (.callv (.s 0 .f4) [(.s 0 .f5), (.s 0 .f2), (.s 0 .f0)]) .nil) [(.mk 0 .f5)] [(.l 0)])))) 
(.reg (.op (.ib .add (.s 0 .f1) (.c (.nat 1))) .nil) [(.mk 0 .f1)] [(.l 0)]))))))) 
(.seq (.reg (.op (.callv (.s 0 .f4) [(.s 0 .f5), (.s 0 .f2), (.s 0 .f2)]) (.op (.bsv 1 1 [(.l 0)]) (.op (.app 1 24 (.s 0 .f3) (.l 0)) .nil))) [(.mk 0 .f3)] [(.l 0)]) 
(.seq (.reg (.op (.load (.s 1 .f0)) (.op (.lenl (.l 0)) (.op (.ib .gtr (.l 0) (.s 1 .f3)) .nil))) [(.mk 1 .f2)] [(.l 0)]) 
(.cond (.s 1 .f2) (.seq (.reg (.op (.store1 (.s 1 .f0) (.c (.oth .nilSlc))) .nil) [(.mk 0 .f3), (.mk 1 .f5)] [(.c (.oth .nilSlc)), (.c (.bool false))]) 
.ret) .skip)))))) 
(.reg (.op (.ib .add (.s 0 .f2) (.c (.nat 1))) .nil) [(.mk 0 .f2)] [(.l 0)])))))) 
(.seq (.reg (.op (.load (.s 1 .f0)) (.op (.store1 (.s 1 .f0) (.l 0)) .nil)) [(.mk 1 .f5)] [(.c (.bool true))]) 
.ret))))))) }
theorem g70 : Good Tryd.prog 70 F70 := ⟨4, [], [16, 31, 14, 9, 13, 15, 30, 32, 8, 27, 62, 1, 2, 10, 7, 3, 0, 11, 4, 12], by kernel_rfl⟩
noncomputable def F74 : EFn := { init := (.n none (some 0) (some 1) none none none none none .nil), nargs := 2, res := [(.s (.mk 0 .f0))], body := (.seq (.reg .nil [(.mk 0 .f0)] [(.c (.bool false))]) 
(.seq (.reg (.op (.call 72 [(.s 0 .f1)]) (.op (.mkf 76 [] [(.s 0 .f2)]) (.op (.call 75 [(.l 1), (.l 0)]) .nil))) [(.mk 0 .f0)] [(.l 0)]) 
.ret)) }
theorem g74 : Good Tryd.prog 74 F74 := ⟨2, [], [3, 0, 1], by kernel_rfl⟩
noncomputable def F73 : EFn := { init := (.n none none none none none none (some 3) none (.n none (some 0) (some 2) (some 1) none none none none .nil)), nargs := 4, res := [(.cells (.mk 0 .f7) 4), (.s (.mk 1 .f0))], body := (.seq (.reg (.op (.zal [(.nat 0), (.nat 0), (.oth .nilSlc), (.oth .nilSlc)] 4) .nil) [(.mk 0 .f7), (.mk 1 .f0)] [(.l 0), (.c (.nat 0))]) 
(.seq (.reg (.op (.gp (.build [(.int .i64 (.ofNat 0)), (.int .i64 (.ofNat 0)), .nilSlc, .nilSlc] [(0, 1, (.t 18)), (2, 1, (.t 20))])) (.op (.zal [(.nat 0), (.nat 0), (.oth .nilSlc), (.oth .nilSlc)] 4) (.op (.store 4 (.l 0) (.l 1)) .nil))) [(.mk 0 .f1)] [(.l 1)]) 
(.seq (.seq (.reg (.op (.lenl (.s 1 .f3)) .nil) [(.mk 0 .f0), (.mk 0 .f3), (.mk 0 .f4)] [(.c (.nat 0)), (.l 0), (.s 1 .f3)]) 
(.block 0 (.loop (.seq (.reg (.op (.ib .lss (.s 0 .f0) (.s 0 .f3)) .nil) [(.mk 0 .f2)] [(.l 0)]) 
(.seq (.cond (.s 0 .f2) .skip (.exit 0)) 
(.seq (.block 1 (.seq (.reg (.op (.iad 1 (.s 0 .f4) (.s 0 .f0)) (.op (.load (.l 0)) .nil)) [(.mk 0 .f5)] [(.l 0)]) 
(.regD (.op none (.fad 3 (.s 0 .f1)) (.fl1 1 (.l 0) (.nil (.op none none [1] (.callv (.s 0 .f6) [(.s 0 .f5)]) (.op none (some 0) [1] (.bsv 1 1 [(.l 0)]) (.op none (some 1) [] (.app 1 1 (.l 2) (.l 0)) (.op none none [] (.fad 3 (.s 0 .f1)) (.op none none [] (.store1 (.l 0) (.l 1)) .nil)))))))) 2 [] []))) 
(.reg (.op (.ib .add (.s 0 .f0) (.c (.nat 1))) .nil) [(.mk 0 .f0)] [(.l 0)]))))))) 
(.seq (.reg (.op (.loadn 4 (.s 0 .f1)) (.op (.call 41 [(.l 0)]) (.op (.ext (.l 0) 0) (.op (.ext (.l 1) 1) (.op (.store 4 (.s 0 .f7) (.l 1)) .nil))))) [(.mk 1 .f0)] [(.l 1)]) 
.ret)))) }
theorem g73 : Good Tryd.prog 73 F73 := ⟨4, [(5, [(0, false), (1, true), (2, false), (3, false), (4, false), (5, false), (6, false), (7, false), (8, false)])], [18, 10, 19, 17, 16, 12, 3, 8, 9, 0, 2, 1], by kernel_rfl⟩
noncomputable def F94 : EFn := { init := (.n none (some 2) (some 1) none none none (some 0) none .nil), nargs := 3, res := [(.s (.mk 0 .f4))], body := (.seq (.reg (.op (.box (.s 0 .f6)) .nil) [(.mk 0 .f0), (.mk 0 .f4)] [(.l 0), (.c (.nat 0))]) 
(.seq (.reg (.op (.load (.s 0 .f2)) (.op (.loadn 2 (.s 0 .f0)) (.op (.look 3 2 (.arr 2 1 false .int) (.nat 0) true (.l 1) (.l 0)) (.op (.ext (.l 0) 0) (.op (.ext (.l 1) 1) .nil))))) [(.mk 0 .f3), (.mk 0 .f7)] [(.l 1), (.l 0)]) 
(.seq (.seq (.reg (.op (.nt (.s 0 .f7)) .nil) [(.mk 0 .f5)] [(.l 0)]) 
(.cond (.s 0 .f5) (.seq (.reg (.op (.load (.s 0 .f1)) (.op (.lenl (.l 0)) .nil)) [(.mk 0 .f3)] [(.l 0)]) 
(.seq (.reg (.op (.load (.s 0 .f2)) (.op (.loadn 2 (.s 0 .f0)) (.op (.mup 3 2 (.arr 2 1 false .int) (.l 1) (.l 0) (.s 0 .f3)) .nil))) [] []) 
(.reg (.op (.load (.s 0 .f1)) (.op (.loadn 2 (.s 0 .f0)) (.op (.bsl 1 2 [(.int .i64 (.ofNat 0)), (.int .i64 (.ofNat 0))] [(0, 2, (.l 0))]) (.op (.app 2 16 (.l 2) (.l 0)) (.op (.store1 (.s 0 .f1) (.l 0)) .nil))))) [] []))) .skip)) 
(.seq (.reg .nil [(.mk 0 .f4)] [(.s 0 .f3)]) 
.ret)))) }
theorem g94 : Good Tryd.prog 94 F94 := ⟨3, [], [3, 2, 1, 5, 4, 14, 0, 6], by kernel_rfl⟩
noncomputable def F95 : EFn := { init := (.n none (some 6) none (some 4) none (some 1) none (some 2) (.n (some 5) none none (some 3) (some 0) none none none .nil)), nargs := 7, res := [(.s (.mk 1 .f2))], body := (.seq (.reg .nil [(.mk 1 .f2)] [(.c (.oth .nilSlc))]) 
(.seq (.reg .nil [(.mk 0 .f2)] [(.c (.oth .nilSlc))]) 
(.seq (.seq (.reg (.op (.load (.s 1 .f3)) (.op (.ib .shl (.c (.nat 1)) (.l 0)) .nil)) [(.mk 0 .f0), (.mk 1 .f1)] [(.c (.nat 0)), (.l 0)]) 
(.block 0 (.loop (.seq (.reg (.op (.ib .lss (.s 0 .f0) (.s 1 .f1)) .nil) [(.mk 0 .f4)] [(.l 0)]) 
(.seq (.cond (.s 0 .f4) .skip (.exit 0)) 
(.seq (.block 1 (.seq (.reg .nil [(.mk 0 .f6)] [(.s 0 .f0)]) 
(.regD (.fl1 1 (.s 0 .f3) (.op none (.load (.s 1 .f0)) (.op none (.load (.s 0 .f1)) (.op none (.iad 2 (.l 0) (.s 0 .f5)) (.op none (.loadn 2 (.l 0)) (.op none (.load (.s 0 .f1)) (.op none (.iad 2 (.l 0) (.s 0 .f7)) (.op none (.loadn 2 (.l 0)) (.nil (.op none none [1] (.callv (.l 6) [(.l 3), (.l 0), (.s 0 .f6)]) (.op none none [] (.callv (.l 8) [(.l 0)]) (.op none (some 0) [] (.bsv 1 1 [(.l 0)]) (.op none (some 1) [] (.app 1 8 (.s 0 .f2) (.l 0)) .nil))))))))))))) 2 [(.mk 0 .f2)] [(.l 0)]))) 
(.reg (.op (.ib .add (.s 0 .f0) (.c (.nat 1))) .nil) [(.mk 0 .f0)] [(.l 0)]))))))) 
(.seq (.reg (.op (.bsv 1 1 [(.s 0 .f2)]) (.op (.app 1 24 (.s 1 .f4) (.l 0)) .nil)) [(.mk 1 .f2)] [(.l 0)]) 
.ret)))) }
theorem g95 : Good Tryd.prog 95 F95 := ⟨7, [(5, [(0, false), (1, true), (4, false), (8, false), (11, false), (2, false), (3, false), (5, false), (6, false), (7, false), (9, false), (10, false), (12, false), (13, false), (14, false), (15, false), (16, false)])], [15, 6, 11, 4, 16, 1, 12, 2, 5, 14, 10, 3, 0], by kernel_rfl⟩
noncomputable def F72 : EFn := { init := (.n none none none (some 0) none none none none .nil), nargs := 1, res := [(.s (.mk 0 .f2))], body := (.seq (.reg .nil [(.mk 0 .f2)] [(.c (.oth .nilSlc))]) 
(.seq (.seq (.reg .nil [(.mk 0 .f0)] [(.c (.nat 0))]) 
(.block 0 (.loop (.seq (.reg (.op (.ib .lss (.s 0 .f0) (.c (.nat 64))) .nil) [(.mk 0 .f4)] [(.l 0)]) 
(.seq (.cond (.s 0 .f4) .skip (.exit 0)) 
(.seq (.block 1 (.seq (.reg .nil [(.mk 0 .f1)] [(.s 0 .f0)]) 
(.seq (.reg (.op (.ib .shr (.s 0 .f3) (.s 0 .f1)) (.op (.ib .and (.l 0) (.c (.u64 1))) (.op (.ib .neq (.l 0) (.c (.u64 0))) .nil))) [(.mk 0 .f5)] [(.l 0)]) 
(.cond (.s 0 .f5) (.reg (.op (.bsv 1 1 [(.s 0 .f1)]) (.op (.app 1 8 (.s 0 .f2) (.l 0)) .nil)) [(.mk 0 .f2)] [(.l 0)]) .skip)))) 
(.reg (.op (.ib .add (.s 0 .f0) (.c (.nat 1))) .nil) [(.mk 0 .f0)] [(.l 0)]))))))) 
(.seq (.reg .nil [] []) 
.ret))) }
theorem g72 : Good Tryd.prog 72 F72 := ⟨1, [], [4, 3, 2, 0, 5, 11], by kernel_rfl⟩
noncomputable def F91 : EFn := { init := (.n (some 0) (some 2) (some 1) none none none none none .nil), nargs := 3, res := [(.s (.mk 0 .f4))], body := (.seq (.reg .nil [(.mk 0 .f4)] [(.c (.nat 0))]) 
(.seq (.reg (.op (.load (.s 0 .f2)) (.op (.look 1 0 .int (.nat 0) true (.l 0) (.s 0 .f0)) (.op (.ext (.l 0) 0) (.op (.ext (.l 1) 1) .nil)))) [(.mk 0 .f3), (.mk 0 .f5)] [(.l 1), (.l 0)]) 
(.seq (.seq (.reg (.op (.nt (.s 0 .f5)) .nil) [(.mk 0 .f6)] [(.l 0)]) 
(.cond (.s 0 .f6) (.seq (.reg (.op (.load (.s 0 .f1)) (.op (.lenl (.l 0)) .nil)) [(.mk 0 .f3)] [(.l 0)]) 
(.seq (.reg (.op (.load (.s 0 .f2)) (.op (.mup 1 0 .int (.l 0) (.s 0 .f0) (.s 0 .f3)) .nil)) [] []) 
(.reg (.op (.load (.s 0 .f1)) (.op (.bsv 1 1 [(.s 0 .f0)]) (.op (.app 1 8 (.l 1) (.l 0)) (.op (.store1 (.s 0 .f1) (.l 0)) .nil)))) [] []))) .skip)) 
(.seq (.reg .nil [(.mk 0 .f4)] [(.s 0 .f3)]) 
.ret)))) }
theorem g91 : Good Tryd.prog 91 F91 := ⟨3, [], [0, 2, 1, 5, 4, 6, 14], by kernel_rfl⟩
noncomputable def F92 : EFn := { init := (.n none (some 6) none (some 4) none (some 1) none (some 2) (.n (some 5) none none (some 3) (some 0) none none none .nil)), nargs := 7, res := [(.s (.mk 1 .f2))], body := (.seq (.reg .nil [(.mk 1 .f2)] [(.c (.oth .nilSlc))]) 
(.seq (.reg .nil [(.mk 0 .f2)] [(.c (.oth .nilSlc))]) 
(.seq (.seq (.reg (.op (.load (.s 1 .f3)) (.op (.ib .shl (.c (.nat 1)) (.l 0)) .nil)) [(.mk 0 .f0), (.mk 1 .f1)] [(.c (.nat 0)), (.l 0)]) 
(.block 0 (.loop (.seq (.reg (.op (.ib .lss (.s 0 .f0) (.s 1 .f1)) .nil) [(.mk 0 .f4)] [(.l 0)]) 
(.seq (.cond (.s 0 .f4) .skip (.exit 0)) 
(.seq (.block 1 (.seq (.reg .nil [(.mk 0 .f6)] [(.s 0 .f0)]) 
(.regD (.fl1 1 (.s 0 .f3) (.op none (.load (.s 1 .f0)) (.op none (.load (.s 0 .f1)) (.op none (.iad 1 (.l 0) (.s 0 .f5)) (.op none (.load (.l 0)) (.op none (.load (.s 0 .f1)) (.op none (.iad 1 (.l 0) (.s 0 .f7)) (.op none (.load (.l 0)) (.nil (.op none none [1] (.callv (.l 6) [(.l 3), (.l 0), (.s 0 .f6)]) (.op none none [] (.callv (.l 8) [(.l 0)]) (.op none (some 0) [] (.bsv 1 1 [(.l 0)]) (.op none (some 1) [] (.app 1 8 (.s 0 .f2) (.l 0)) .nil))))))))))))) 2 [(.mk 0 .f2)] [(.l 0)]))) 
(.reg (.op (.ib .add (.s 0 .f0) (.c (.nat 1))) .nil) [(.mk 0 .f0)] [(.l 0)]))))))) 
(.seq (.reg (.op (.bsv 1 1 [(.s 0 .f2)]) (.op (.app 1 24 (.s 1 .f4) (.l 0)) .nil)) [(.mk 1 .f2)] [(.l 0)]) 
.ret)))) }
theorem g92 : Good Tryd.prog 92 F92 := ⟨7, [(5, [(0, false), (1, true), (4, false), (8, false), (11, false), (2, false), (3, false), (5, false), (6, false), (7, false), (9, false), (10, false), (12, false), (13, false), (14, false), (15, false), (16, false)])], [15, 6, 11, 4, 16, 1, 12, 2, 5, 14, 10, 3, 0], by kernel_rfl⟩
noncomputable def F76 : EFn := { init := (.n none (some 1) (some 0) none none none none none .nil), nargs := 2, res := [(.s (.mk 0 .f0))], body := (.seq (.reg .nil [(.mk 0 .f0)] [(.c (.bool false))]) 
(.seq (.reg (.op (.fad 3 (.s 0 .f1)) (.op (.load (.l 0)) (.op (.iad 1 (.l 0) (.s 0 .f2)) (.op (.load (.l 0)) .nil)))) [(.mk 0 .f0)] [(.l 0)]) 
.ret)) }
theorem g76 : Good Tryd.prog 76 F76 := ⟨2, [], [3, 1, 0], by kernel_rfl⟩
noncomputable def F75 : EFn := { init := (.n none (some 0) (some 1) none none none none none .nil), nargs := 2, res := [(.s (.mk 0 .f0))], body := (.seq (.reg .nil [(.mk 0 .f0)] [(.c (.bool false))]) 
(.seq (.reg (.op (.call 93 [(.s 0 .f1), (.s 0 .f2)]) (.op (.ib .geq (.l 0) (.c (.nat 0))) .nil)) [(.mk 0 .f0)] [(.l 0)]) 
.ret)) }
theorem g75 : Good Tryd.prog 75 F75 := ⟨2, [], [4, 0, 1], by kernel_rfl⟩
noncomputable def F93 : EFn := { init := (.n none none (some 0) none none (some 1) none none .nil), nargs := 2, res := [(.s (.mk 0 .f7))], body := (.seq (.reg .nil [(.mk 0 .f7)] [(.c (.nat 0))]) 
(.seq (.seq (.reg (.op (.lenl (.s 0 .f2)) .nil) [(.mk 0 .f0), (.mk 0 .f4)] [(.c (.nat 0)), (.l 0)]) 
(.block 0 (.loop (.seq (.reg (.op (.ib .lss (.s 0 .f0) (.s 0 .f4)) .nil) [(.mk 0 .f3)] [(.l 0)]) 
(.seq (.cond (.s 0 .f3) .skip (.exit 0)) 
(.seq (.block 1 (.seq (.reg .nil [(.mk 0 .f1)] [(.s 0 .f0)]) 
(.seq (.reg (.op (.iad 1 (.s 0 .f2) (.s 0 .f1)) (.op (.load (.l 0)) (.op (.callv (.s 0 .f5) [(.l 0)]) .nil))) [(.mk 0 .f6)] [(.l 0)]) 
(.cond (.s 0 .f6) (.seq (.reg .nil [(.mk 0 .f7)] [(.s 0 .f1)]) 
.ret) .skip)))) 
(.reg (.op (.ib .add (.s 0 .f0) (.c (.nat 1))) .nil) [(.mk 0 .f0)] [(.l 0)]))))))) 
(.seq (.reg .nil [(.mk 0 .f7)] [(.c (.oth (.int .i64 (.negSucc 0))))]) 
.ret))) }
theorem g93 : Good Tryd.prog 93 F93 := ⟨2, [], [8, 5, 0, 9, 7, 1, 16, 4], by kernel_rfl⟩
noncomputable def tab : Tr EFn := (.br (.br (.br (.nd F21 (.nd F85 .nil .nil .nil .nil) .nil .nil .nil) .nil (.nd F53 .nil .nil .nil .nil) (.nd F69 .nil .nil .nil .nil)) (.nd F9 (.nd F25 (.nd F89 .nil .nil .nil .nil) .nil .nil .nil) .nil (.nd F57 .nil .nil .nil .nil) (.nd F73 .nil .nil .nil .nil)) (.br (.nd F29 (.nd F93 .nil .nil .nil .nil) .nil .nil .nil) (.nd F45 .nil .nil .nil .nil) (.nd F61 .nil .nil .nil .nil) (.nd F77 .nil .nil .nil .nil)) (.nd F17 (.nd F33 (.nd F97 .nil .nil .nil .nil) .nil .nil .nil) (.nd F49 .nil .nil .nil .nil) (.nd F65 .nil .nil .nil .nil) (.nd F81 .nil .nil .nil .nil))) (.br (.br (.nd F22 (.nd F86 .nil .nil .nil .nil) .nil .nil .nil) (.nd F38 .nil .nil .nil .nil) (.nd F54 .nil .nil .nil .nil) (.nd F70 .nil .nil .nil .nil)) (.nd F10 (.nd F26 (.nd F90 .nil .nil .nil .nil) .nil .nil .nil) (.nd F42 .nil .nil .nil .nil) (.nd F58 .nil .nil .nil .nil) (.nd F74 .nil .nil .nil .nil)) (.nd F14 (.nd F30 (.nd F94 .nil .nil .nil .nil) .nil .nil .nil) (.nd F46 .nil .nil .nil .nil) (.nd F62 .nil .nil .nil .nil) (.nd F78 .nil .nil .nil .nil)) (.nd F18 (.nd F34 (.nd F98 .nil .nil .nil .nil) .nil .nil .nil) (.nd F50 .nil .nil .nil .nil) .nil (.nd F82 .nil .nil .nil .nil))) (.nd F3 (.br (.br (.nd F87 .nil .nil .nil .nil) .nil .nil .nil) .nil (.nd F55 .nil .nil .nil .nil) (.nd F71 .nil .nil .nil .nil)) (.nd F11 (.nd F27 (.nd F91 .nil .nil .nil .nil) .nil .nil .nil) (.nd F43 .nil .nil .nil .nil) (.nd F59 .nil .nil .nil .nil) (.nd F75 .nil .nil .nil .nil)) (.nd F15 (.nd F31 (.nd F95 .nil .nil .nil .nil) .nil .nil .nil) .nil (.nd F63 .nil .nil .nil .nil) (.nd F79 .nil .nil .nil .nil)) (.nd F19 (.nd F35 .nil .nil .nil .nil) (.nd F51 .nil .nil .nil .nil) (.nd F67 .nil .nil .nil .nil) (.nd F83 .nil .nil .nil .nil))) (.nd F4 (.br (.nd F24 (.nd F88 .nil .nil .nil .nil) .nil .nil .nil) (.nd F40 .nil .nil .nil .nil) (.nd F56 .nil .nil .nil .nil) .nil) (.nd F12 (.nd F28 (.nd F92 .nil .nil .nil .nil) .nil .nil .nil) (.nd F44 .nil .nil .nil .nil) (.nd F60 .nil .nil .nil .nil) (.nd F76 .nil .nil .nil .nil)) (.nd F16 (.nd F32 (.nd F96 .nil .nil .nil .nil) .nil .nil .nil) .nil (.nd F64 .nil .nil .nil .nil) (.nd F80 .nil .nil .nil .nil)) (.nd F20 (.nd F36 .nil .nil .nil .nil) (.nd F52 .nil .nil .nil .nil) (.nd F68 .nil .nil .nil .nil) (.nd F84 .nil .nil .nil .nil))))
theorem tabOK : TabOK Tryd.prog tab := ⟨⟨⟨⟨g21, ⟨g85, trivial, trivial, trivial, trivial⟩, trivial, trivial, trivial⟩, trivial, ⟨g53, trivial, trivial, trivial, trivial⟩, ⟨g69, trivial, trivial, trivial, trivial⟩⟩, ⟨g9, ⟨g25, ⟨g89, trivial, trivial, trivial, trivial⟩, trivial, trivial, trivial⟩, trivial, ⟨g57, trivial, trivial, trivial, trivial⟩, ⟨g73, trivial, trivial, trivial, trivial⟩⟩, ⟨⟨g29, ⟨g93, trivial, trivial, trivial, trivial⟩, trivial, trivial, trivial⟩, ⟨g45, trivial, trivial, trivial, trivial⟩, ⟨g61, trivial, trivial, trivial, trivial⟩, ⟨g77, trivial, trivial, trivial, trivial⟩⟩, ⟨g17, ⟨g33, ⟨g97, trivial, trivial, trivial, trivial⟩, trivial, trivial, trivial⟩, ⟨g49, trivial, trivial, trivial, trivial⟩, ⟨g65, trivial, trivial, trivial, trivial⟩, ⟨g81, trivial, trivial, trivial, trivial⟩⟩⟩, ⟨⟨⟨g22, ⟨g86, trivial, trivial, trivial, trivial⟩, trivial, trivial, trivial⟩, ⟨g38, trivial, trivial, trivial, trivial⟩, ⟨g54, trivial, trivial, trivial, trivial⟩, ⟨g70, trivial, trivial, trivial, trivial⟩⟩, ⟨g10, ⟨g26, ⟨g90, trivial, trivial, trivial, trivial⟩, trivial, trivial, trivial⟩, ⟨g42, trivial, trivial, trivial, trivial⟩, ⟨g58, trivial, trivial, trivial, trivial⟩, ⟨g74, trivial, trivial, trivial, trivial⟩⟩, ⟨g14, ⟨g30, ⟨g94, trivial, trivial, trivial, trivial⟩, trivial, trivial, trivial⟩, ⟨g46, trivial, trivial, trivial, trivial⟩, ⟨g62, trivial, trivial, trivial, trivial⟩, ⟨g78, trivial, trivial, trivial, trivial⟩⟩, ⟨g18, ⟨g34, ⟨g98, trivial, trivial, trivial, trivial⟩, trivial, trivial, trivial⟩, ⟨g50, trivial, trivial, trivial, trivial⟩, trivial, ⟨g82, trivial, trivial, trivial, trivial⟩⟩⟩, ⟨g3, ⟨⟨⟨g87, trivial, trivial, trivial, trivial⟩, trivial, trivial, trivial⟩, trivial, ⟨g55, trivial, trivial, trivial, trivial⟩, ⟨g71, trivial, trivial, trivial, trivial⟩⟩, ⟨g11, ⟨g27, ⟨g91, trivial, trivial, trivial, trivial⟩, trivial, trivial, trivial⟩, ⟨g43, trivial, trivial, trivial, trivial⟩, ⟨g59, trivial, trivial, trivial, trivial⟩, ⟨g75, trivial, trivial, trivial, trivial⟩⟩, ⟨g15, ⟨g31, ⟨g95, trivial, trivial, trivial, trivial⟩, trivial, trivial, trivial⟩, trivial, ⟨g63, trivial, trivial, trivial, trivial⟩, ⟨g79, trivial, trivial, trivial, trivial⟩⟩, ⟨g19, ⟨g35, trivial, trivial, trivial, trivial⟩, ⟨g51, trivial, trivial, trivial, trivial⟩, ⟨g67, trivial, trivial, trivial, trivial⟩, ⟨g83, trivial, trivial, trivial, trivial⟩⟩⟩, ⟨g4, ⟨⟨g24, ⟨g88, trivial, trivial, trivial, trivial⟩, trivial, trivial, trivial⟩, ⟨g40, trivial, trivial, trivial, trivial⟩, ⟨g56, trivial, trivial, trivial, trivial⟩, trivial⟩, ⟨g12, ⟨g28, ⟨g92, trivial, trivial, trivial, trivial⟩, trivial, trivial, trivial⟩, ⟨g44, trivial, trivial, trivial, trivial⟩, ⟨g60, trivial, trivial, trivial, trivial⟩, ⟨g76, trivial, trivial, trivial, trivial⟩⟩, ⟨g16, ⟨g32, ⟨g96, trivial, trivial, trivial, trivial⟩, trivial, trivial, trivial⟩, trivial, ⟨g64, trivial, trivial, trivial, trivial⟩, ⟨g80, trivial, trivial, trivial, trivial⟩⟩, ⟨g20, ⟨g36, trivial, trivial, trivial, trivial⟩, ⟨g52, trivial, trivial, trivial, trivial⟩, ⟨g68, trivial, trivial, trivial, trivial⟩, ⟨g84, trivial, trivial, trivial, trivial⟩⟩⟩⟩
end Go.Proofs.Cat
end
section
set_option maxRecDepth 100000
namespace Go.Proofs.Cat
open Go Go.A Go.E
theorem hmo : Tryd.prog.follows .mixedOrders = true := by kernel_rfl
theorem idle8 : IdleF Tryd.prog 8 := idleF_of (t := 6) (b := 8) (d := 3) (q := .eq .ifn false (.t 6) (.c .nilIfc)) (by kernel_rfl) (fun ρ h1 h2 => by simp [pop, h1, h2, aeq])
noncomputable def FI : EFI := ⟨F5.init, F5.nargs, F5.res, sq1 F5.body, sq1 (sq2 F5.body), sq2 (sq2 (sq2 F5.body)), 8, 3⟩
theorem gI : mkI Tryd.prog 5 1 [(7, [(0, false), (1, false), (2, false), (3, true), (4, false), (5, false), (6, false)])] [4, 3, 2, 5, 0, 8, 21] = some FI := by kernel_rfl
noncomputable def fn66 : Func := (Tryd.prog.funcs[66]?).getD default
theorem f66 : Tryd.prog.funcs[66]? = some fn66 := by kernel_rfl
theorem e66 {next : HC} (h : HSound Tryd.prog next) : HSound Tryd.prog (extIB 66 next) :=
  extIB_sound f66 (by kernel_rfl) (by kernel_rfl) (by kernel_rfl) (by kernel_rfl) h
theorem room8 : FI.k ≤ roomF Tryd.prog FI.g := Nat.le_of_ble_eq_true (by kernel_rfl)
def n (k : Nat) : Dat := .v (.nat k)
def y (k : Nat) : Dat := .v (.byt k)
def N (l : List Nat) : List Dat := l.map n
end Go.Proofs.Cat
end
