/- Contracts for FabricFull, packed: X1 X QA CM CN CB CC PB. -/
import Derived.Test.YtofdnnjkfpomcaaZFabricFull1
import Derived.Test.YtofdnnjkfpomcaaRows
import Derived.KernelRfl
import Derived.Test.YtofdnnjkfpomcaaZFabricFull3
import Derived.Laws.BitsAllLaws
/- The functions' compact code, as Lean computes it. -/
namespace Go.Proofs.Ytofdnnjkfpomcaa.E
open Go
set_option maxRecDepth 100000

/-- chaplet/chapletlaw06.FabricOrder -/
def x3 : XF := XF.mk 198 [.tmp 4] (.seq (.ops [.mk (some 4) none (.move (.cst (.g (.bool (.lit false)))))]) (.seq (.ops [.mk (some 29) none (.build [.g (.int .i64 (.lit 0)), .g (.int .i64 (.lit 0)), .g (.int .i64 (.lit 0)), .g (.int .i64 (.lit 0)), .g (.int .i64 (.lit 0)), .g (.int .i64 (.lit 0)), .g (.int .i64 (.lit 0)), .g .nil] [(0, 1, .cst (.g (.int .i64 (.lit 4)))), (1, 1, .cst (.g (.int .i64 (.lit 1)))), (2, 1, .cst (.g (.int .i64 (.lit 1)))), (3, 1, .cst (.g (.int .i64 (.lit 1)))), (4, 1, .cst (.g (.int .i64 (.lit 1)))), (5, 1, .cst (.g (.int .i64 (.lit 3)))), (6, 1, .cst (.g (.int .i64 (.lit 8))))]), .mk (some 5) none (.alloc [.g (.int .i64 (.lit 0)), .g (.int .i64 (.lit 0)), .g (.int .i64 (.lit 0)), .g (.int .i64 (.lit 0)), .g (.int .i64 (.lit 0)), .g (.int .i64 (.lit 0)), .g (.int .i64 (.lit 0)), .g .nil]), .mk none none (.store 8 (.tmp 5) (.tmp 29))]) (.seq (.ops [.mk (some 30) none (.load (some 8) (.tmp 5)), .mk (some 31) none (.call 8 [.tmp 30]), .mk (some 6) none (.move (.tmp 31))]) (.seq (.seq (.ops [.mk (some 32) none (.move (.tmp 6)), .mk (some 33) none (.eq false .ptr (.tmp 32) (.cst (.g .nilp)))]) (.cond (.tmp 33) (.seq (.ops [.mk (some 4) none (.move (.cst (.g (.bool (.lit false)))))]) .ret) .skip)) (.seq (.ops [.mk (some 7) none (.alloc [.g .nil, .g .nil, .g .nil, .g .nil, .g .nil, .g .nil, .g .nil, .g .nil])]) (.seq (.seq (.ops [.mk (some 8) none (.move (.cst (.g (.int .i64 (.lit 0)))))]) (.block 0 (.loop (.seq (.seq (.ops [.mk (some 34) none (.move (.tmp 8)), .mk (some 35) none (.move (.tmp 0)), .mk (some 36) none (.len (.tmp 35)), .mk (some 37) none (.cmp .lss (.tmp 34) (.tmp 36)), .mk (some 38) none (.move (.tmp 37)), .mk (some 39) (some (38, true)) (.move (.tmp 8)), .mk (some 40) (some (38, true)) (.cmp .lss (.tmp 39) (.cst (.g (.int .i64 (.lit 14))))), .mk (some 41) none (.pick (.tmp 38) (.tmp 40) (.cst (.g (.bool (.lit false)))))]) (.cond (.tmp 41) .skip (.exit 0))) (.seq (.block 1 (.seq (.ops [.mk (some 44) none (.move (.tmp 0)), .mk (some 45) none (.move (.tmp 8)), .mk (some 46) none (.indexAddr none 1 (.tmp 44) (.tmp 45)), .mk (some 47) none (.load none (.tmp 46)), .mk (some 48) none (.call 9 [.tmp 47, .cst (.g (.int .i64 (.lit 4)))]), .mk (some 9) none (.move (.tmp 48))]) (.seq (.ops [.mk (some 10) none (.move (.cst (.g (.int .i64 (.lit 0))))), .mk (some 11) none (.move (.cst (.g (.int .i64 (.lit 3)))))]) (.seq (.seq (.ops [.mk (some 49) none (.move (.tmp 8)), .mk (some 50) none (.move (.tmp 1)), .mk (some 51) none (.len (.tmp 50)), .mk (some 52) none (.cmp .lss (.tmp 49) (.tmp 51)), .mk (some 53) none (.move (.tmp 52)), .mk (some 54) (some (53, true)) (.move (.tmp 1)), .mk (some 55) (some (53, true)) (.move (.tmp 8)), .mk (some 56) (some (53, true)) (.indexAddr none 1 (.tmp 54) (.tmp 55)), .mk (some 57) (some (53, true)) (.load none (.tmp 56)), .mk (some 58) none (.pick (.tmp 53) (.tmp 57) (.cst (.g (.bool (.lit false)))))]) (.cond (.tmp 58) (.ops [.mk (some 10) none (.move (.cst (.g (.int .i64 (.lit 1))))), .mk (some 11) none (.move (.cst (.g (.int .i64 (.lit 8)))))]) .skip)) (.seq (.ops [.mk (some 59) none (.move (.tmp 11)), .mk (some 60) none (.move (.tmp 9)), .mk (some 61) none (.move (.tmp 8)), .mk (some 62) none (.build [.g (.int .i64 (.lit 0)), .g (.int .i64 (.lit 0)), .g (.int .i64 (.lit 0)), .g (.int .i64 (.lit 0)), .g (.int .i64 (.lit 0)), .g (.int .i64 (.lit 0)), .g (.int .i64 (.lit 0)), .g (.bool (.lit false)), .g .nil] [(0, 1, .tmp 59), (1, 1, .tmp 60), (2, 1, .cst (.g (.int .i64 (.lit 2)))), (3, 1, .tmp 61)]), .mk (some 12) none (.alloc [.g (.int .i64 (.lit 0)), .g (.int .i64 (.lit 0)), .g (.int .i64 (.lit 0)), .g (.int .i64 (.lit 0)), .g (.int .i64 (.lit 0)), .g (.int .i64 (.lit 0)), .g (.int .i64 (.lit 0)), .g (.bool (.lit false)), .g .nil]), .mk none none (.store 9 (.tmp 12) (.tmp 62))]) (.seq (.seq (.drawn 14 (.op 0 true (.mk (some 63) none (.move (.tmp 6))) (.op 1 true (.mk (some 64) none (.load (some 9) (.tmp 12))) (.op 4 true (.mk (some 67) none (.move (.tmp 9))) (.op 5 true (.mk (some 68) none (.move (.tmp 10))) (.op 6 true (.mk (some 69) none (.indexAddr (some 4) 2 (.tmp 7) (.tmp 67))) (.op 7 true (.mk (some 70) none (.indexAddr (some 2) 1 (.tmp 69) (.tmp 68))) (.op 8 true (.mk (some 71) none (.load none (.tmp 70))) (.op 9 true (.mk (some 72) none (.len (.tmp 71))) (.op 10 true (.mk (some 73) none (.cmp .lss (.tmp 72) (.cst (.g (.int .i64 (.lit 3)))))) (.op 2 false (.mk (some 65) none (.call 10 [.tmp 63, .tmp 64])) (.op 3 false (.mk (some 66) none (.cmp .eql (.tmp 65) (.cst (.g (.int .i64 (.lit 0)))))) (.op 11 false (.mk (some 74) none (.eq true .bool (.tmp 66) (.tmp 73))) .nil))))))))))))) (.cond (.tmp 74) (.seq (.ops [.mk (some 4) none (.move (.cst (.g (.bool (.lit false)))))]) .ret) .skip)) (.seq (.ops [.mk (some 75) none (.move (.tmp 9)), .mk (some 76) none (.move (.tmp 10)), .mk (some 77) none (.indexAddr (some 4) 2 (.tmp 7) (.tmp 75)), .mk (some 78) none (.indexAddr (some 2) 1 (.tmp 77) (.tmp 76)), .mk (some 79) none (.load none (.tmp 78)), .mk (some 80) none (.len (.tmp 79)), .mk (some 81) none (.cmp .lss (.tmp 80) (.cst (.g (.int .i64 (.lit 3)))))]) (.cond (.tmp 81) (.drawn 17 (.op 0 true (.mk (some 82) none (.move (.tmp 9))) (.op 1 true (.mk (some 83) none (.move (.tmp 10))) (.op 2 true (.mk (some 84) none (.move (.tmp 9))) (.op 3 true (.mk (some 85) none (.move (.tmp 10))) (.op 4 true (.mk (some 86) none (.indexAddr (some 4) 2 (.tmp 7) (.tmp 84))) (.op 5 true (.mk (some 87) none (.indexAddr (some 2) 1 (.tmp 86) (.tmp 85))) (.op 7 true (.mk (some 89) none (.load (some 9) (.tmp 12))) (.op 10 true (.mk (some 92) none (.indexAddr (some 4) 2 (.tmp 7) (.tmp 82))) (.alt (.op 6 false (.mk (some 88) none (.load none (.tmp 87))) (.op 8 false (.mk (some 90) none (.buildSlice 9 [.g (.int .i64 (.lit 0)), .g (.int .i64 (.lit 0)), .g (.int .i64 (.lit 0)), .g (.int .i64 (.lit 0)), .g (.int .i64 (.lit 0)), .g (.int .i64 (.lit 0)), .g (.int .i64 (.lit 0)), .g (.bool (.lit false)), .g .nil] 1 [(0, .tmp 89)])) (.op 9 false (.mk (some 91) none (.append 9 88 [.g (.int .i64 (.lit 0)), .g (.int .i64 (.lit 0)), .g (.int .i64 (.lit 0)), .g (.int .i64 (.lit 0)), .g (.int .i64 (.lit 0)), .g (.int .i64 (.lit 0)), .g (.int .i64 (.lit 0)), .g (.bool (.lit false)), .g .nil] (.tmp 88) (.tmp 90))) (.op 11 false (.mk (some 93) none (.indexAddr (some 2) 1 (.tmp 92) (.tmp 83))) (.op 12 false (.mk none none (.store 1 (.tmp 93) (.tmp 91))) .nil))))) (.op 8 false (.mk (some 90) none (.buildSlice 9 [.g (.int .i64 (.lit 0)), .g (.int .i64 (.lit 0)), .g (.int .i64 (.lit 0)), .g (.int .i64 (.lit 0)), .g (.int .i64 (.lit 0)), .g (.int .i64 (.lit 0)), .g (.int .i64 (.lit 0)), .g (.bool (.lit false)), .g .nil] 1 [(0, .tmp 89)])) (.op 6 false (.mk (some 88) none (.load none (.tmp 87))) (.op 9 false (.mk (some 91) none (.append 9 88 [.g (.int .i64 (.lit 0)), .g (.int .i64 (.lit 0)), .g (.int .i64 (.lit 0)), .g (.int .i64 (.lit 0)), .g (.int .i64 (.lit 0)), .g (.int .i64 (.lit 0)), .g (.int .i64 (.lit 0)), .g (.bool (.lit false)), .g .nil] (.tmp 88) (.tmp 90))) (.op 11 false (.mk (some 93) none (.indexAddr (some 2) 1 (.tmp 92) (.tmp 83))) (.op 12 false (.mk none none (.store 1 (.tmp 93) (.tmp 91))) .nil))))))))))))))) .skip)))))))) (.ops [.mk (some 42) none (.move (.tmp 8)), .mk (some 43) none (.bin .add (.tmp 42) (.cst (.g (.int .i64 (.lit 1))))), .mk (some 8) none (.move (.tmp 43))])))))) (.seq (.ops [.mk (some 13) none (.move (.cst (.g .nil))), .mk (some 14) none (.move (.cst (.g .nil)))]) (.seq (.seq (.ops [.mk (some 94) none (.move (.cst (.g (.int .i64 (.lit 0)))))]) (.block 2 (.loop (.seq (.ops [.mk (some 95) none (.cmp .lss (.tmp 94) (.cst (.g (.int .i64 (.lit 4)))))]) (.seq (.cond (.tmp 95) .skip (.exit 2)) (.seq (.block 3 (.seq (.ops [.mk (some 96) none (.move (.tmp 94)), .mk (some 15) none (.move (.tmp 96))]) (.drawn 22 (.op 0 true (.mk (some 97) none (.move (.tmp 13))) (.op 1 true (.mk (some 98) none (.move (.tmp 15))) (.op 2 true (.mk (some 99) none (.indexAddr (some 4) 2 (.tmp 7) (.tmp 98))) (.op 3 true (.mk (some 100) none (.indexAddr (some 2) 1 (.tmp 99) (.cst (.g (.int .i64 (.lit 0)))))) (.op 4 true (.mk (some 101) none (.load none (.tmp 100))) (.op 6 true (.mk (some 103) none (.move (.tmp 15))) (.op 7 true (.mk (some 104) none (.indexAddr (some 4) 2 (.tmp 7) (.tmp 103))) (.op 8 true (.mk (some 105) none (.indexAddr (some 2) 1 (.tmp 104) (.cst (.g (.int .i64 (.lit 1)))))) (.op 9 true (.mk (some 106) none (.load none (.tmp 105))) (.op 5 false (.mk (some 102) none (.append 9 88 [.g (.int .i64 (.lit 0)), .g (.int .i64 (.lit 0)), .g (.int .i64 (.lit 0)), .g (.int .i64 (.lit 0)), .g (.int .i64 (.lit 0)), .g (.int .i64 (.lit 0)), .g (.int .i64 (.lit 0)), .g (.bool (.lit false)), .g .nil] (.tmp 97) (.tmp 101))) (.op 10 false (.mk (some 107) none (.append 9 88 [.g (.int .i64 (.lit 0)), .g (.int .i64 (.lit 0)), .g (.int .i64 (.lit 0)), .g (.int .i64 (.lit 0)), .g (.int .i64 (.lit 0)), .g (.int .i64 (.lit 0)), .g (.int .i64 (.lit 0)), .g (.bool (.lit false)), .g .nil] (.tmp 102) (.tmp 106))) (.op 11 false (.mk (some 13) none (.move (.tmp 107))) .nil))))))))))))))) (.ops [.mk (some 108) none (.bin .add (.tmp 94) (.cst (.g (.int .i64 (.lit 1))))), .mk (some 94) none (.move (.tmp 108))]))))))) (.seq (.seq (.ops [.mk (some 109) none (.move (.tmp 6)), .mk (some 110) none (.call 11 [.tmp 109]), .mk (some 111) none (.move (.tmp 13)), .mk (some 112) none (.len (.tmp 111)), .mk (some 113) none (.cmp .neq (.tmp 110) (.tmp 112))]) (.cond (.tmp 113) (.seq (.ops [.mk (some 4) none (.move (.cst (.g (.bool (.lit false)))))]) .ret) .skip)) (.seq (.seq (.ops [.mk (some 114) none (.move (.tmp 13)), .mk (some 115) none (.len (.tmp 114)), .mk (some 116) none (.move (.cst (.g (.int .i64 (.lit 0)))))]) (.block 4 (.loop (.seq (.ops [.mk (some 117) none (.cmp .lss (.tmp 116) (.tmp 115))]) (.seq (.cond (.tmp 117) .skip (.exit 4)) (.seq (.block 5 (.seq (.ops [.mk (some 118) none (.move (.tmp 116)), .mk (some 119) none (.indexAddr none 9 (.tmp 114) (.tmp 116)), .mk (some 120) none (.load (some 9) (.tmp 119)), .mk (some 17) none (.alloc [.g (.int .i64 (.lit 0)), .g (.int .i64 (.lit 0)), .g (.int .i64 (.lit 0)), .g (.int .i64 (.lit 0)), .g (.int .i64 (.lit 0)), .g (.int .i64 (.lit 0)), .g (.int .i64 (.lit 0)), .g (.bool (.lit false)), .g .nil]), .mk (some 16) none (.move (.tmp 118)), .mk none none (.store 9 (.tmp 17) (.tmp 120))]) (.seq (.ops [.mk (some 122) none (.move (.tmp 6)), .mk (some 123) none (.move (.tmp 16)), .mk (some 124) none (.call 12 [.tmp 122, .tmp 123]), .mk (some 121) none (.move (.tmp 124)), .mk (some 125) none (.extract (.tmp 121) 0), .mk (some 126) none (.extract (.tmp 121) 1), .mk (some 18) none (.alloc [.g (.int .i64 (.lit 0)), .g (.int .i64 (.lit 0)), .g (.int .i64 (.lit 0)), .g (.int .i64 (.lit 0)), .g (.int .i64 (.lit 0)), .g (.int .i64 (.lit 0)), .g (.int .i64 (.lit 0)), .g (.bool (.lit false)), .g .nil]), .mk none none (.store 9 (.tmp 18) (.tmp 125)), .mk (some 19) none (.move (.tmp 126))]) (.seq (.ops [.mk (some 127) none (.move (.tmp 19)), .mk (some 128) none (.not (.tmp 127)), .mk (some 129) none (.move (.tmp 128)), .mk (some 130) (some (129, false)) (.load (some 9) (.tmp 17)), .mk (some 131) (some (129, false)) (.load (some 9) (.tmp 18)), .mk (some 132) (some (129, false)) (.call 13 [.tmp 130, .tmp 131]), .mk (some 133) (some (129, false)) (.not (.tmp 132)), .mk (some 134) none (.pick (.tmp 129) (.cst (.g (.bool (.lit true)))) (.tmp 133))]) (.cond (.tmp 134) (.seq (.ops [.mk (some 4) none (.move (.cst (.g (.bool (.lit false)))))]) .ret) .skip))))) (.ops [.mk (some 135) none (.bin .add (.tmp 116) (.cst (.g (.int .i64 (.lit 1))))), .mk (some 116) none (.move (.tmp 135))]))))))) (.seq (.ops [.mk (some 20) none (.move (.cst (.g (.int .i64 (.lit 0)))))]) (.seq (.seq (.ops [.mk (some 136) none (.move (.tmp 13)), .mk (some 137) none (.len (.tmp 136)), .mk (some 138) none (.bin .sub (.tmp 137) (.cst (.g (.int .i64 (.lit 1))))), .mk (some 21) none (.move (.tmp 138))]) (.block 6 (.loop (.seq (.seq (.ops [.mk (some 139) none (.move (.tmp 21)), .mk (some 140) none (.cmp .geq (.tmp 139) (.cst (.g (.int .i64 (.lit 0)))))]) (.cond (.tmp 140) .skip (.exit 6))) (.seq (.block 7 (.seq (.ops [.mk (some 22) none (.move (.cst (.g (.int .i64 (.lit 0)))))]) (.seq (.seq (.ops [.mk (some 143) none (.move (.tmp 13)), .mk (some 144) none (.move (.tmp 21)), .mk (some 145) none (.indexAddr none 9 (.tmp 143) (.tmp 144)), .mk (some 146) none (.fieldAddr 0 (.tmp 145)), .mk (some 147) none (.load none (.tmp 146)), .mk (some 148) none (.cmp .eql (.tmp 147) (.cst (.g (.int .i64 (.lit 8)))))]) (.cond (.tmp 148) (.seq (.seq (.ops [.mk (some 149) none (.move (.tmp 20)), .mk (some 150) none (.cmp .gtr (.tmp 149) (.cst (.g (.int .i64 (.lit 0)))))]) (.cond (.tmp 150) (.ops [.mk (some 22) none (.move (.cst (.g (.int .i64 (.lit 5)))))]) .skip)) (.ops [.mk (some 151) none (.move (.tmp 20)), .mk (some 152) none (.bin .add (.tmp 151) (.cst (.g (.int .i64 (.lit 1))))), .mk (some 20) none (.move (.tmp 152))])) (.seq (.ops [.mk (some 153) none (.move (.tmp 14)), .mk (some 154) none (.len (.tmp 153)), .mk (some 155) none (.cmp .eql (.tmp 154) (.cst (.g (.int .i64 (.lit 8)))))]) (.cond (.tmp 155) (.ops [.mk (some 22) none (.move (.cst (.g (.int .i64 (.lit 5)))))]) (.ops [.mk (some 156) none (.move (.tmp 14)), .mk (some 157) none (.move (.tmp 13)), .mk (some 158) none (.move (.tmp 21)), .mk (some 159) none (.indexAddr none 9 (.tmp 157) (.tmp 158)), .mk (some 160) none (.load (some 9) (.tmp 159)), .mk (some 161) none (.buildSlice 9 [.g (.int .i64 (.lit 0)), .g (.int .i64 (.lit 0)), .g (.int .i64 (.lit 0)), .g (.int .i64 (.lit 0)), .g (.int .i64 (.lit 0)), .g (.int .i64 (.lit 0)), .g (.int .i64 (.lit 0)), .g (.bool (.lit false)), .g .nil] 1 [(0, .tmp 160)]), .mk (some 162) none (.append 9 88 [.g (.int .i64 (.lit 0)), .g (.int .i64 (.lit 0)), .g (.int .i64 (.lit 0)), .g (.int .i64 (.lit 0)), .g (.int .i64 (.lit 0)), .g (.int .i64 (.lit 0)), .g (.int .i64 (.lit 0)), .g (.bool (.lit false)), .g .nil] (.tmp 156) (.tmp 161)), .mk (some 14) none (.move (.tmp 162))]))))) (.seq (.ops [.mk (some 163) none (.move (.tmp 6)), .mk (some 164) none (.move (.tmp 21)), .mk (some 165) none (.call 14 [.tmp 163, .tmp 164, .cst (.g (.int .i64 (.lit 0))), .cst (.g (.int .u16 (.lit 0)))]), .mk (some 166) none (.move (.tmp 22)), .mk (some 167) none (.cmp .neq (.tmp 165) (.tmp 166))]) (.cond (.tmp 167) (.seq (.ops [.mk (some 4) none (.move (.cst (.g (.bool (.lit false)))))]) .ret) .skip))))) (.ops [.mk (some 141) none (.move (.tmp 21)), .mk (some 142) none (.bin .sub (.tmp 141) (.cst (.g (.int .i64 (.lit 1))))), .mk (some 21) none (.move (.tmp 142))])))))) (.seq (.seq (.ops [.mk (some 168) none (.move (.tmp 14)), .mk (some 169) none (.len (.tmp 168)), .mk (some 170) none (.move (.cst (.g (.int .i64 (.lit 0)))))]) (.block 8 (.loop (.seq (.ops [.mk (some 171) none (.cmp .lss (.tmp 170) (.tmp 169))]) (.seq (.cond (.tmp 171) .skip (.exit 8)) (.seq (.block 9 (.seq (.ops [.mk (some 172) none (.indexAddr none 9 (.tmp 168) (.tmp 170)), .mk (some 173) none (.load (some 9) (.tmp 172)), .mk (some 24) none (.alloc [.g (.int .i64 (.lit 0)), .g (.int .i64 (.lit 0)), .g (.int .i64 (.lit 0)), .g (.int .i64 (.lit 0)), .g (.int .i64 (.lit 0)), .g (.int .i64 (.lit 0)), .g (.int .i64 (.lit 0)), .g (.bool (.lit false)), .g .nil]), .mk none none (.store 9 (.tmp 24) (.tmp 173))]) (.seq (.ops [.mk (some 175) none (.move (.tmp 6)), .mk (some 176) none (.call 15 [.tmp 175, .cst (.g (.int .i64 (.lit 2)))]), .mk (some 174) none (.move (.tmp 176)), .mk (some 177) none (.extract (.tmp 174) 0), .mk (some 178) none (.extract (.tmp 174) 1), .mk (some 25) none (.alloc [.g (.int .i64 (.lit 0)), .g (.int .i64 (.lit 0)), .g (.int .i64 (.lit 0)), .g (.int .i64 (.lit 0)), .g (.int .i64 (.lit 0)), .g (.int .i64 (.lit 0)), .g (.int .i64 (.lit 0)), .g (.bool (.lit false)), .g .nil]), .mk none none (.store 9 (.tmp 25) (.tmp 177)), .mk (some 26) none (.move (.tmp 178))]) (.seq (.ops [.mk (some 179) none (.move (.tmp 26)), .mk (some 180) none (.not (.tmp 179)), .mk (some 181) none (.move (.tmp 180)), .mk (some 182) (some (181, false)) (.load (some 9) (.tmp 24)), .mk (some 183) (some (181, false)) (.load (some 9) (.tmp 25)), .mk (some 184) (some (181, false)) (.call 13 [.tmp 182, .tmp 183]), .mk (some 185) (some (181, false)) (.not (.tmp 184)), .mk (some 186) none (.pick (.tmp 181) (.cst (.g (.bool (.lit true)))) (.tmp 185))]) (.cond (.tmp 186) (.seq (.ops [.mk (some 4) none (.move (.cst (.g (.bool (.lit false)))))]) .ret) .skip))))) (.ops [.mk (some 187) none (.bin .add (.tmp 170) (.cst (.g (.int .i64 (.lit 1))))), .mk (some 170) none (.move (.tmp 187))]))))))) (.seq (.ops [.mk (some 189) none (.move (.tmp 6)), .mk (some 190) none (.call 15 [.tmp 189, .cst (.g (.int .i64 (.lit 2)))]), .mk (some 188) none (.move (.tmp 190)), .mk (some 191) none (.extract (.tmp 188) 0), .mk (some 192) none (.extract (.tmp 188) 1), .mk (some 27) none (.alloc [.g (.int .i64 (.lit 0)), .g (.int .i64 (.lit 0)), .g (.int .i64 (.lit 0)), .g (.int .i64 (.lit 0)), .g (.int .i64 (.lit 0)), .g (.int .i64 (.lit 0)), .g (.int .i64 (.lit 0)), .g (.bool (.lit false)), .g .nil]), .mk none none (.store 9 (.tmp 27) (.tmp 191)), .mk (some 28) none (.move (.tmp 192))]) (.seq (.ops [.mk (some 193) none (.move (.tmp 28)), .mk (some 194) none (.not (.tmp 193)), .mk (some 195) none (.move (.tmp 194)), .mk (some 196) (some (195, true)) (.call 16 []), .mk (some 197) none (.pick (.tmp 195) (.tmp 196) (.cst (.g (.bool (.lit false))))), .mk (some 4) none (.move (.tmp 197))]) .ret)))))))))))))))
theorem c3 : compF Try.prog 3 = some x3 := by kernel_rfl
/-- chaplet/chapletlaw06.FabricFull -/
def x4 : XF := XF.mk 113 [.tmp 6] (.seq (.ops [.mk (some 6) none (.move (.cst (.g (.bool (.lit false)))))]) (.seq (.ops [.mk (some 16) none (.move (.tmp 0)), .mk (some 17) none (.call 9 [.tmp 16, .cst (.g (.int .i64 (.lit 6)))]), .mk (some 18) none (.bin .add (.cst (.g (.int .i64 (.lit 1)))) (.tmp 17)), .mk (some 19) none (.move (.tmp 1)), .mk (some 20) none (.call 9 [.tmp 19, .cst (.g (.int .i64 (.lit 6)))]), .mk (some 21) none (.bin .add (.cst (.g (.int .i64 (.lit 1)))) (.tmp 20)), .mk (some 22) none (.build [.g (.int .i64 (.lit 0)), .g (.int .i64 (.lit 0)), .g (.int .i64 (.lit 0)), .g (.int .i64 (.lit 0)), .g (.int .i64 (.lit 0)), .g (.int .i64 (.lit 0)), .g (.int .i64 (.lit 0)), .g .nil] [(0, 1, .cst (.g (.int .i64 (.lit 2)))), (1, 1, .cst (.g (.int .i64 (.lit 1)))), (2, 1, .cst (.g (.int .i64 (.lit 1)))), (3, 1, .cst (.g (.int .i64 (.lit 1)))), (4, 1, .cst (.g (.int .i64 (.lit 1)))), (5, 1, .tmp 18), (6, 1, .tmp 21)]), .mk (some 7) none (.alloc [.g (.int .i64 (.lit 0)), .g (.int .i64 (.lit 0)), .g (.int .i64 (.lit 0)), .g (.int .i64 (.lit 0)), .g (.int .i64 (.lit 0)), .g (.int .i64 (.lit 0)), .g (.int .i64 (.lit 0)), .g .nil]), .mk none none (.store 8 (.tmp 7) (.tmp 22))]) (.seq (.ops [.mk (some 23) none (.load (some 8) (.tmp 7)), .mk (some 24) none (.call 8 [.tmp 23]), .mk (some 8) none (.move (.tmp 24))]) (.seq (.seq (.ops [.mk (some 25) none (.move (.tmp 8)), .mk (some 26) none (.eq false .ptr (.tmp 25) (.cst (.g .nilp)))]) (.cond (.tmp 26) (.seq (.ops [.mk (some 6) none (.move (.cst (.g (.bool (.lit false)))))]) .ret) .skip)) (.seq (.ops [.mk (some 27) none (.build [.g (.int .i64 (.lit 0)), .g (.int .i64 (.lit 0)), .g (.int .i64 (.lit 0)), .g (.int .i64 (.lit 0)), .g (.int .i64 (.lit 0)), .g (.int .i64 (.lit 0)), .g (.int .i64 (.lit 0)), .g (.bool (.lit false)), .g .nil] [(0, 1, .cst (.g (.int .i64 (.lit 1)))), (2, 1, .cst (.g (.int .i64 (.lit 1))))]), .mk (some 28) none (.build [.g (.int .i64 (.lit 0)), .g (.int .i64 (.lit 0)), .g (.int .i64 (.lit 0)), .g (.int .i64 (.lit 0)), .g (.int .i64 (.lit 0)), .g (.int .i64 (.lit 0)), .g (.int .i64 (.lit 0)), .g (.bool (.lit false)), .g .nil] [(0, 1, .cst (.g (.int .i64 (.lit 8)))), (2, 1, .cst (.g (.int .i64 (.lit 1))))]), .mk (some 9) none (.alloc [.g (.int .i64 (.lit 0)), .g (.int .i64 (.lit 0)), .g (.int .i64 (.lit 0)), .g (.int .i64 (.lit 0)), .g (.int .i64 (.lit 0)), .g (.int .i64 (.lit 0)), .g (.int .i64 (.lit 0)), .g (.bool (.lit false)), .g .nil]), .mk (some 10) none (.alloc [.g (.int .i64 (.lit 0)), .g (.int .i64 (.lit 0)), .g (.int .i64 (.lit 0)), .g (.int .i64 (.lit 0)), .g (.int .i64 (.lit 0)), .g (.int .i64 (.lit 0)), .g (.int .i64 (.lit 0)), .g (.bool (.lit false)), .g .nil]), .mk none none (.store 9 (.tmp 9) (.tmp 27)), .mk none none (.store 9 (.tmp 10) (.tmp 28))]) (.seq (.seq (.ops [.mk (some 29) none (.move (.tmp 2))]) (.cond (.tmp 29) (.ops [.mk (some 30) none (.load (some 9) (.tmp 10)), .mk (some 31) none (.load (some 9) (.tmp 9)), .mk none none (.store 9 (.tmp 9) (.tmp 30)), .mk none none (.store 9 (.tmp 10) (.tmp 31))]) .skip)) (.seq (.seq (.ops [.mk (some 11) none (.move (.cst (.g (.int .i64 (.lit 0)))))]) (.block 0 (.loop (.seq (.seq (.ops [.mk (some 32) none (.move (.tmp 11)), .mk (some 33) none (.fieldAddr 5 (.tmp 7)), .mk (some 34) none (.load none (.tmp 33)), .mk (some 35) none (.cmp .lss (.tmp 32) (.tmp 34))]) (.cond (.tmp 35) .skip (.exit 0))) (.seq (.block 1 (.seq (.drawn 11 (.op 0 true (.mk (some 38) none (.move (.tmp 8))) (.op 1 false (.mk (some 39) none (.load (some 9) (.tmp 9))) (.op 2 false (.mk (some 40) none (.call 10 [.tmp 38, .tmp 39])) (.op 3 false (.mk (some 41) none (.cmp .neq (.tmp 40) (.cst (.g (.int .i64 (.lit 0)))))) (.op 4 false (.mk (some 42) none (.move (.tmp 41))) (.op 5 true (.mk (some 43) (some (42, false)) (.move (.tmp 8))) (.op 6 true (.mk (some 44) (some (42, false)) (.fieldAddr 0 (.tmp 9))) (.op 7 true (.mk (some 45) (some (42, false)) (.load none (.tmp 44))) (.op 8 true (.mk (some 46) (some (42, false)) (.cmp .eql (.tmp 45) (.cst (.g (.int .i64 (.lit 1)))))) (.op 10 true (.mk (some 48) (some (42, false)) (.fieldAddr 5 (.tmp 7))) (.op 11 true (.mk (some 49) (some (42, false)) (.load none (.tmp 48))) (.op 12 true (.mk (some 50) (some (42, false)) (.bin .sub (.tmp 49) (.cst (.g (.int .i64 (.lit 1)))))) (.op 13 true (.mk (some 51) (some (42, false)) (.move (.tmp 11))) (.op 14 true (.mk (some 52) (some (42, false)) (.bin .sub (.tmp 50) (.tmp 51))) (.op 9 false (.mk (some 47) (some (42, false)) (.call 17 [.tmp 43, .cst (.g (.int .i64 (.lit 0))), .tmp 46])) (.op 15 false (.mk (some 53) (some (42, false)) (.cmp .neq (.tmp 47) (.tmp 52))) (.op 16 false (.mk (some 54) none (.pick (.tmp 42) (.cst (.g (.bool (.lit true)))) (.tmp 53))) .nil)))))))))))))))))) (.cond (.tmp 54) (.seq (.ops [.mk (some 6) none (.move (.cst (.g (.bool (.lit false)))))]) .ret) .skip))) (.ops [.mk (some 36) none (.move (.tmp 11)), .mk (some 37) none (.bin .add (.tmp 36) (.cst (.g (.int .i64 (.lit 1))))), .mk (some 11) none (.move (.tmp 37))])))))) (.seq (.seq (.drawn 13 (.op 0 true (.mk (some 55) none (.move (.tmp 8))) (.op 1 false (.mk (some 56) none (.load (some 9) (.tmp 9))) (.op 2 false (.mk (some 57) none (.call 10 [.tmp 55, .tmp 56])) (.op 3 false (.mk (some 58) none (.cmp .neq (.tmp 57) (.cst (.g (.int .i64 (.lit 5)))))) (.op 4 false (.mk (some 59) none (.move (.tmp 58))) (.op 5 true (.mk (some 60) (some (59, false)) (.move (.tmp 8))) (.op 6 false (.mk (some 61) (some (59, false)) (.load (some 9) (.tmp 10))) (.op 7 false (.mk (some 62) (some (59, false)) (.call 10 [.tmp 60, .tmp 61])) (.op 8 false (.mk (some 63) (some (59, false)) (.cmp .neq (.tmp 62) (.cst (.g (.int .i64 (.lit 0)))))) (.op 9 false (.mk (some 64) none (.pick (.tmp 59) (.cst (.g (.bool (.lit true)))) (.tmp 63))) (.op 10 false (.mk (some 65) none (.move (.tmp 64))) (.op 11 true (.mk (some 66) (some (65, false)) (.move (.tmp 8))) (.op 13 true (.mk (some 68) (some (65, false)) (.fieldAddr 5 (.tmp 7))) (.op 14 true (.mk (some 69) (some (65, false)) (.load none (.tmp 68))) (.op 12 false (.mk (some 67) (some (65, false)) (.call 17 [.tmp 66, .cst (.g (.int .i64 (.lit 1))), .cst (.g (.bool (.lit true)))])) (.op 15 false (.mk (some 70) (some (65, false)) (.cmp .neq (.tmp 67) (.tmp 69))) (.op 16 false (.mk (some 71) none (.pick (.tmp 65) (.cst (.g (.bool (.lit true)))) (.tmp 70))) .nil)))))))))))))))))) (.cond (.tmp 71) (.seq (.ops [.mk (some 6) none (.move (.cst (.g (.bool (.lit false)))))]) .ret) .skip)) (.seq (.ops [.mk (some 72) none (.fieldAddr 6 (.tmp 7)), .mk (some 73) none (.load none (.tmp 72)), .mk (some 12) none (.move (.tmp 73)), .mk (some 13) none (.move (.cst (.g (.int .i64 (.lit 0)))))]) (.seq (.seq (.ops [.mk (some 74) none (.move (.tmp 2))]) (.cond (.tmp 74) (.ops [.mk (some 12) none (.move (.cst (.g (.int .i64 (.lit 1))))), .mk (some 13) none (.move (.cst (.g (.int .i64 (.lit 1)))))]) .skip)) (.seq (.seq (.ops [.mk (some 14) none (.move (.cst (.g (.int .i64 (.lit 0)))))]) (.block 2 (.loop (.seq (.seq (.ops [.mk (some 75) none (.move (.tmp 14)), .mk (some 76) none (.fieldAddr 5 (.tmp 7)), .mk (some 77) none (.load none (.tmp 76)), .mk (some 78) none (.cmp .lss (.tmp 75) (.tmp 77))]) (.cond (.tmp 78) .skip (.exit 2))) (.seq (.block 3 (.seq (.ops [.mk (some 15) none (.move (.cst (.g (.int .i64 (.lit 0)))))]) (.seq (.seq (.ops [.mk (some 81) none (.move (.tmp 14)), .mk (some 82) none (.move (.tmp 12)), .mk (some 83) none (.cmp .geq (.tmp 81) (.tmp 82))]) (.cond (.tmp 83) (.ops [.mk (some 15) none (.move (.cst (.g (.int .i64 (.lit 5)))))]) .skip)) (.seq (.ops [.mk (some 84) none (.move (.tmp 8)), .mk (some 85) none (.move (.tmp 13)), .mk (some 86) none (.call 14 [.tmp 84, .tmp 85, .cst (.g (.int .i64 (.lit 0))), .cst (.g (.int .u16 (.lit 0)))]), .mk (some 87) none (.move (.tmp 15)), .mk (some 88) none (.cmp .neq (.tmp 86) (.tmp 87))]) (.cond (.tmp 88) (.seq (.ops [.mk (some 6) none (.move (.cst (.g (.bool (.lit false)))))]) .ret) .skip))))) (.ops [.mk (some 79) none (.move (.tmp 14)), .mk (some 80) none (.bin .add (.tmp 79) (.cst (.g (.int .i64 (.lit 1))))), .mk (some 14) none (.move (.tmp 80))])))))) (.seq (.drawn 26 (.op 0 true (.mk (some 89) none (.move (.tmp 8))) (.op 2 true (.mk (some 91) none (.fieldAddr 5 (.tmp 7))) (.op 3 true (.mk (some 92) none (.load none (.tmp 91))) (.op 4 true (.mk (some 93) none (.move (.tmp 12))) (.op 5 true (.mk (some 94) none (.bin .sub (.tmp 92) (.tmp 93))) (.op 6 true (.mk (some 95) none (.mnmx true (.tmp 94) [.cst (.g (.int .i64 (.lit 0)))])) (.op 7 true (.mk (some 96) none (.bin .add (.cst (.g (.int .i64 (.lit 1)))) (.tmp 95))) (.op 1 false (.mk (some 90) none (.call 11 [.tmp 89])) (.op 8 false (.mk (some 97) none (.cmp .eql (.tmp 90) (.tmp 96))) (.op 9 false (.mk (some 98) none (.move (.tmp 97))) (.op 10 true (.mk (some 99) (some (98, true)) (.move (.tmp 8))) (.op 11 false (.mk (some 100) (some (98, true)) (.build [.g (.int .i64 (.lit 0)), .g (.int .i64 (.lit 0)), .g (.int .i64 (.lit 0)), .g (.int .i64 (.lit 0)), .g (.int .i64 (.lit 0)), .g (.int .i64 (.lit 0)), .g (.int .i64 (.lit 0)), .g (.bool (.lit false)), .g .nil] [(0, 1, .cst (.g (.int .i64 (.lit 1)))), (1, 1, .cst (.g (.int .i64 (.lit 2))))])) (.op 12 false (.mk (some 101) (some (98, true)) (.call 10 [.tmp 99, .tmp 100])) (.op 13 false (.mk (some 102) (some (98, true)) (.cmp .eql (.tmp 101) (.cst (.g (.int .i64 (.lit 1)))))) (.op 14 false (.mk (some 103) none (.pick (.tmp 98) (.tmp 102) (.cst (.g (.bool (.lit false)))))) (.op 15 false (.mk (some 104) none (.move (.tmp 103))) (.op 16 true (.mk (some 105) (some (104, true)) (.move (.tmp 8))) (.op 17 false (.mk (some 106) (some (104, true)) (.build [.g (.int .i64 (.lit 0)), .g (.int .i64 (.lit 0)), .g (.int .i64 (.lit 0)), .g (.int .i64 (.lit 0)), .g (.int .i64 (.lit 0)), .g (.int .i64 (.lit 0)), .g (.int .i64 (.lit 0)), .g (.bool (.lit false)), .g .nil] [])) (.op 18 false (.mk (some 107) (some (104, true)) (.call 10 [.tmp 105, .tmp 106])) (.op 19 false (.mk (some 108) (some (104, true)) (.cmp .eql (.tmp 107) (.cst (.g (.int .i64 (.lit 1)))))) (.op 20 false (.mk (some 109) none (.pick (.tmp 104) (.tmp 108) (.cst (.g (.bool (.lit false)))))) (.op 21 false (.mk (some 110) none (.move (.tmp 109))) (.op 22 false (.mk (some 111) (some (110, true)) (.call 16 [])) (.op 23 false (.mk (some 112) none (.pick (.tmp 110) (.tmp 111) (.cst (.g (.bool (.lit false)))))) (.op 24 false (.mk (some 6) none (.move (.tmp 112))) .nil)))))))))))))))))))))))))) .ret))))))))))))
theorem c4 : compF Try.prog 4 = some x4 := by kernel_rfl
/-- chaplet/chapletlaw06.FabricWay -/
def x5 : XF := XF.mk 153 [.tmp 8] (.seq (.ops [.mk (some 4) none (.box (.tmp 0)), .mk (some 5) none (.box (.tmp 1)), .mk (some 8) none (.move (.cst (.g (.bool (.lit false)))))]) (.seq (.ops [.mk (some 21) none (.load (some 12) (.tmp 4)), .mk (some 22) none (.call 18 [.tmp 21]), .mk (some 9) none (.alloc [.g (.int .i64 (.lit 0)), .g (.int .i64 (.lit 0)), .g (.int .i64 (.lit 0)), .g (.int .i64 (.lit 0)), .g (.int .i64 (.lit 0)), .g (.int .i64 (.lit 0)), .g (.int .i64 (.lit 0)), .g .nil]), .mk none none (.store 8 (.tmp 9) (.tmp 22))]) (.seq (.ops [.mk (some 23) none (.load (some 8) (.tmp 9)), .mk (some 24) none (.call 8 [.tmp 23]), .mk (some 10) none (.move (.tmp 24))]) (.seq (.seq (.ops [.mk (some 25) none (.move (.tmp 10)), .mk (some 26) none (.eq false .ptr (.tmp 25) (.cst (.g .nilp)))]) (.cond (.tmp 26) (.seq (.ops [.mk (some 8) none (.move (.cst (.g (.bool (.lit false)))))]) .ret) .skip)) (.seq (.ops [.mk (some 27) none (.load (some 9) (.tmp 5)), .mk (some 28) none (.call 19 [.tmp 27, .cst (.g (.int .i64 (.lit 0)))]), .mk (some 11) none (.alloc [.g (.int .i64 (.lit 0)), .g (.int .i64 (.lit 0)), .g (.int .i64 (.lit 0)), .g (.int .i64 (.lit 0)), .g (.int .i64 (.lit 0)), .g (.int .i64 (.lit 0)), .g (.int .i64 (.lit 0)), .g (.bool (.lit false)), .g .nil]), .mk none none (.store 9 (.tmp 11) (.tmp 28))]) (.seq (.drawn 6 (.op 0 true (.mk (some 29) none (.fieldAddr 1 (.tmp 11))) (.op 2 true (.mk (some 31) none (.fieldAddr 0 (.tmp 9))) (.op 3 true (.mk (some 32) none (.load none (.tmp 31))) (.op 5 true (.mk (some 34) none (.fieldAddr 2 (.tmp 11))) (.op 7 true (.mk (some 36) none (.fieldAddr 0 (.tmp 9))) (.op 8 true (.mk (some 37) none (.load none (.tmp 36))) (.alt (.op 1 false (.mk (some 30) none (.load none (.tmp 29))) (.alt (.op 4 false (.mk (some 33) none (.call 9 [.tmp 30, .tmp 32])) (.op 6 false (.mk (some 35) none (.load none (.tmp 34))) (.op 10 true (.mk (some 39) none (.fieldAddr 1 (.tmp 11))) (.op 9 false (.mk (some 38) none (.call 9 [.tmp 35, .tmp 37])) (.op 11 false (.mk none none (.store 1 (.tmp 39) (.tmp 33))) (.op 12 false (.mk (some 40) none (.fieldAddr 2 (.tmp 11))) (.op 13 false (.mk none none (.store 1 (.tmp 40) (.tmp 38))) .nil))))))) (.op 6 false (.mk (some 35) none (.load none (.tmp 34))) (.op 4 false (.mk (some 33) none (.call 9 [.tmp 30, .tmp 32])) (.op 10 true (.mk (some 39) none (.fieldAddr 1 (.tmp 11))) (.op 9 false (.mk (some 38) none (.call 9 [.tmp 35, .tmp 37])) (.op 11 false (.mk none none (.store 1 (.tmp 39) (.tmp 33))) (.op 12 false (.mk (some 40) none (.fieldAddr 2 (.tmp 11))) (.op 13 false (.mk none none (.store 1 (.tmp 40) (.tmp 38))) .nil))))))))) (.op 6 false (.mk (some 35) none (.load none (.tmp 34))) (.op 1 false (.mk (some 30) none (.load none (.tmp 29))) (.op 4 false (.mk (some 33) none (.call 9 [.tmp 30, .tmp 32])) (.op 10 true (.mk (some 39) none (.fieldAddr 1 (.tmp 11))) (.op 9 false (.mk (some 38) none (.call 9 [.tmp 35, .tmp 37])) (.op 11 false (.mk none none (.store 1 (.tmp 39) (.tmp 33))) (.op 12 false (.mk (some 40) none (.fieldAddr 2 (.tmp 11))) (.op 13 false (.mk none none (.store 1 (.tmp 40) (.tmp 38))) .nil)))))))))))))))) (.seq (.seq (.ops [.mk (some 41) none (.move (.tmp 10)), .mk (some 42) none (.load (some 9) (.tmp 11)), .mk (some 43) none (.call 10 [.tmp 41, .tmp 42]), .mk (some 44) none (.cmp .neq (.tmp 43) (.cst (.g (.int .i64 (.lit 0)))))]) (.cond (.tmp 44) (.seq (.ops [.mk (some 8) none (.move (.cst (.g (.bool (.lit false)))))]) .ret) .skip)) (.seq (.seq (.ops [.mk (some 12) none (.move (.cst (.g (.int .i64 (.lit 0)))))]) (.block 0 (.loop (.seq (.seq (.ops [.mk (some 45) none (.move (.tmp 12)), .mk (some 46) none (.move (.tmp 2)), .mk (some 47) none (.len (.tmp 46)), .mk (some 48) none (.cmp .lss (.tmp 45) (.tmp 47)), .mk (some 49) none (.move (.tmp 48)), .mk (some 50) (some (49, true)) (.move (.tmp 12)), .mk (some 51) (some (49, true)) (.cmp .lss (.tmp 50) (.cst (.g (.int .i64 (.lit 9))))), .mk (some 52) none (.pick (.tmp 49) (.tmp 51) (.cst (.g (.bool (.lit false)))))]) (.cond (.tmp 52) .skip (.exit 0))) (.seq (.block 1 (.seq (.ops [.mk (some 55) none (.move (.tmp 10)), .mk (some 56) none (.move (.tmp 2)), .mk (some 57) none (.move (.tmp 12)), .mk (some 58) none (.indexAddr none 1 (.tmp 56) (.tmp 57)), .mk (some 59) none (.load none (.tmp 58)), .mk (some 60) none (.call 9 [.tmp 59, .cst (.g (.int .i64 (.lit 90)))]), .mk (some 61) none (.move (.tmp 3)), .mk (some 62) none (.bin .or (.tmp 61) (.cst (.g (.int .u16 (.lit 32768))))), .mk (some 63) none (.call 14 [.tmp 55, .cst (.g (.int .i64 (.lit 0))), .tmp 60, .tmp 62]), .mk (some 64) none (.cmp .neq (.tmp 63) (.cst (.g (.int .i64 (.lit 2))))), .mk (some 65) none (.move (.tmp 64)), .mk (some 66) (some (65, false)) (.move (.tmp 10)), .mk (some 67) (some (65, false)) (.call 11 [.tmp 66]), .mk (some 68) (some (65, false)) (.cmp .neq (.tmp 67) (.cst (.g (.int .i64 (.lit 1))))), .mk (some 69) none (.pick (.tmp 65) (.cst (.g (.bool (.lit true)))) (.tmp 68))]) (.cond (.tmp 69) (.seq (.ops [.mk (some 8) none (.move (.cst (.g (.bool (.lit false)))))]) .ret) .skip))) (.ops [.mk (some 53) none (.move (.tmp 12)), .mk (some 54) none (.bin .add (.tmp 53) (.cst (.g (.int .i64 (.lit 1))))), .mk (some 12) none (.move (.tmp 54))])))))) (.seq (.seq (.ops [.mk (some 70) none (.move (.tmp 10)), .mk (some 71) none (.call 14 [.tmp 70, .cst (.g (.int .i64 (.lit 0))), .cst (.g (.int .i64 (.lit 0))), .cst (.g (.int .u16 (.lit 0)))]), .mk (some 72) none (.cmp .neq (.tmp 71) (.cst (.g (.int .i64 (.lit 0))))), .mk (some 73) none (.move (.tmp 72)), .mk (some 74) (some (73, false)) (.move (.tmp 10)), .mk (some 75) (some (73, false)) (.call 11 [.tmp 74]), .mk (some 76) (some (73, false)) (.cmp .neq (.tmp 75) (.cst (.g (.int .i64 (.lit 0))))), .mk (some 77) none (.pick (.tmp 73) (.cst (.g (.bool (.lit true)))) (.tmp 76)), .mk (some 78) none (.move (.tmp 77)), .mk (some 79) (some (78, false)) (.move (.tmp 10)), .mk (some 80) (some (78, false)) (.call 14 [.tmp 79, .cst (.g (.int .i64 (.lit 0))), .cst (.g (.int .i64 (.lit 0))), .cst (.g (.int .u16 (.lit 0)))]), .mk (some 81) (some (78, false)) (.cmp .neq (.tmp 80) (.cst (.g (.int .i64 (.lit 3))))), .mk (some 82) none (.pick (.tmp 78) (.cst (.g (.bool (.lit true)))) (.tmp 81))]) (.cond (.tmp 82) (.seq (.ops [.mk (some 8) none (.move (.cst (.g (.bool (.lit false)))))]) .ret) .skip)) (.seq (.ops [.mk (some 84) none (.move (.tmp 10)), .mk (some 85) none (.fieldAddr 2 (.tmp 11)), .mk (some 86) none (.load none (.tmp 85)), .mk (some 87) none (.call 20 [.tmp 84, .tmp 86]), .mk (some 83) none (.move (.tmp 87)), .mk (some 88) none (.extract (.tmp 83) 0), .mk (some 89) none (.extract (.tmp 83) 1), .mk (some 13) none (.move (.tmp 88)), .mk (some 14) none (.move (.tmp 89))]) (.seq (.ops [.mk (some 91) none (.move (.tmp 10)), .mk (some 92) none (.fieldAddr 2 (.tmp 11)), .mk (some 93) none (.load none (.tmp 92)), .mk (some 94) none (.call 15 [.tmp 91, .tmp 93]), .mk (some 90) none (.move (.tmp 94)), .mk (some 95) none (.extract (.tmp 90) 0), .mk (some 96) none (.extract (.tmp 90) 1), .mk (some 15) none (.alloc [.g (.int .i64 (.lit 0)), .g (.int .i64 (.lit 0)), .g (.int .i64 (.lit 0)), .g (.int .i64 (.lit 0)), .g (.int .i64 (.lit 0)), .g (.int .i64 (.lit 0)), .g (.int .i64 (.lit 0)), .g (.bool (.lit false)), .g .nil]), .mk none none (.store 9 (.tmp 15) (.tmp 95)), .mk (some 16) none (.move (.tmp 96))]) (.seq (.seq (.ops [.mk (some 97) none (.fieldAddr 0 (.tmp 11)), .mk (some 98) none (.load none (.tmp 97)), .mk (some 99) none (.cmp .gtr (.tmp 98) (.cst (.g (.int .i64 (.lit 6)))))]) (.cond (.tmp 99) (.seq (.seq (.ops [.mk (some 100) none (.move (.tmp 16)), .mk (some 101) none (.move (.tmp 100)), .mk (some 102) (some (101, false)) (.move (.tmp 13)), .mk (some 103) (some (101, false)) (.cmp .neq (.tmp 102) (.cst (.g (.int .i64 (.lit 0))))), .mk (some 104) none (.pick (.tmp 101) (.cst (.g (.bool (.lit true)))) (.tmp 103)), .mk (some 105) none (.move (.tmp 104)), .mk (some 106) (some (105, false)) (.move (.tmp 14)), .mk (some 107) (some (105, false)) (.cmp .neq (.tmp 106) (.cst (.g (.int .i64 (.lit 1))))), .mk (some 108) none (.pick (.tmp 105) (.cst (.g (.bool (.lit true)))) (.tmp 107))]) (.cond (.tmp 108) (.seq (.ops [.mk (some 8) none (.move (.cst (.g (.bool (.lit false)))))]) .ret) .skip)) (.ops [.mk (some 110) none (.move (.tmp 10)), .mk (some 111) none (.fieldAddr 2 (.tmp 11)), .mk (some 112) none (.load none (.tmp 111)), .mk (some 113) none (.call 21 [.tmp 110, .tmp 112]), .mk (some 109) none (.move (.tmp 113)), .mk (some 114) none (.extract (.tmp 109) 0), .mk (some 115) none (.extract (.tmp 109) 1), .mk none none (.store 9 (.tmp 15) (.tmp 114)), .mk (some 16) none (.move (.tmp 115))])) (.seq (.ops [.mk (some 116) none (.move (.tmp 13)), .mk (some 117) none (.cmp .neq (.tmp 116) (.cst (.g (.int .i64 (.lit 1))))), .mk (some 118) none (.move (.tmp 117)), .mk (some 119) (some (118, false)) (.move (.tmp 14)), .mk (some 120) (some (118, false)) (.cmp .neq (.tmp 119) (.cst (.g (.int .i64 (.lit 0))))), .mk (some 121) none (.pick (.tmp 118) (.cst (.g (.bool (.lit true)))) (.tmp 120))]) (.cond (.tmp 121) (.seq (.ops [.mk (some 8) none (.move (.cst (.g (.bool (.lit false)))))]) .ret) .skip)))) (.seq (.ops [.mk (some 123) none (.move (.tmp 10)), .mk (some 124) none (.fieldAddr 2 (.tmp 11)), .mk (some 125) none (.load none (.tmp 124)), .mk (some 126) none (.call 15 [.tmp 123, .tmp 125]), .mk (some 122) none (.move (.tmp 126)), .mk (some 127) none (.extract (.tmp 122) 0), .mk (some 128) none (.extract (.tmp 122) 1), .mk (some 17) none (.alloc [.g (.int .i64 (.lit 0)), .g (.int .i64 (.lit 0)), .g (.int .i64 (.lit 0)), .g (.int .i64 (.lit 0)), .g (.int .i64 (.lit 0)), .g (.int .i64 (.lit 0)), .g (.int .i64 (.lit 0)), .g (.bool (.lit false)), .g .nil]), .mk none none (.store 9 (.tmp 17) (.tmp 127)), .mk (some 18) none (.move (.tmp 128))]) (.seq (.ops [.mk (some 130) none (.move (.tmp 10)), .mk (some 131) none (.fieldAddr 2 (.tmp 11)), .mk (some 132) none (.load none (.tmp 131)), .mk (some 133) none (.call 21 [.tmp 130, .tmp 132]), .mk (some 129) none (.move (.tmp 133)), .mk (some 134) none (.extract (.tmp 129) 0), .mk (some 135) none (.extract (.tmp 129) 1), .mk (some 19) none (.alloc [.g (.int .i64 (.lit 0)), .g (.int .i64 (.lit 0)), .g (.int .i64 (.lit 0)), .g (.int .i64 (.lit 0)), .g (.int .i64 (.lit 0)), .g (.int .i64 (.lit 0)), .g (.int .i64 (.lit 0)), .g (.bool (.lit false)), .g .nil]), .mk none none (.store 9 (.tmp 19) (.tmp 134)), .mk (some 20) none (.move (.tmp 135))]) (.seq (.ops [.mk (some 136) none (.move (.tmp 16)), .mk (some 137) none (.move (.tmp 136)), .mk (some 138) (some (137, true)) (.load (some 9) (.tmp 11)), .mk (some 139) (some (137, true)) (.load (some 9) (.tmp 15)), .mk (some 140) (some (137, true)) (.call 13 [.tmp 138, .tmp 139]), .mk (some 141) none (.pick (.tmp 137) (.tmp 140) (.cst (.g (.bool (.lit false))))), .mk (some 142) none (.move (.tmp 141)), .mk (some 143) (some (142, true)) (.move (.tmp 18)), .mk (some 144) (some (142, true)) (.not (.tmp 143)), .mk (some 145) none (.pick (.tmp 142) (.tmp 144) (.cst (.g (.bool (.lit false))))), .mk (some 146) none (.move (.tmp 145)), .mk (some 147) (some (146, true)) (.move (.tmp 20)), .mk (some 148) (some (146, true)) (.not (.tmp 147)), .mk (some 149) none (.pick (.tmp 146) (.tmp 148) (.cst (.g (.bool (.lit false))))), .mk (some 150) none (.move (.tmp 149)), .mk (some 151) (some (150, true)) (.call 16 []), .mk (some 152) none (.pick (.tmp 150) (.tmp 151) (.cst (.g (.bool (.lit false))))), .mk (some 8) none (.move (.tmp 152))]) .ret)))))))))))))))
theorem c5 : compF Try.prog 5 = some x5 := by kernel_rfl
/-- chaplet/fabric.New -/
def x8 : XF := XF.mk 34 [.tmp 2] (.seq (.ops [.mk (some 1) none (.box (.tmp 0)), .mk (some 2) none (.move (.cst (.g .nilp)))]) (.seq (.ops [.mk (some 4) none (.build [.g .nil] []), .mk (some 5) none (.box (.tmp 4)), .mk (some 3) none (.move (.tmp 5))]) (.seq (.seq (.ops [.mk (some 6) none (.fieldAddr 0 (.tmp 1)), .mk (some 7) none (.load none (.tmp 6)), .mk (some 8) none (.move (.cst (.g (.int .i64 (.lit 0)))))]) (.block 0 (.loop (.seq (.ops [.mk (some 9) none (.cmp .lss (.tmp 8) (.tmp 7))]) (.seq (.cond (.tmp 9) .skip (.exit 0)) (.seq (.block 1 (.drawn 4 (.op 0 true (.mk (some 10) none (.move (.tmp 3))) (.op 1 true (.mk (some 11) none (.move (.tmp 3))) (.op 2 true (.mk (some 12) none (.nilCheck (.tmp 11))) (.op 3 true (.mk (some 13) none (.fieldAddr 0 (.tmp 12))) (.op 5 true (.mk (some 15) none (.fieldAddr 5 (.tmp 1))) (.op 6 true (.mk (some 16) none (.load none (.tmp 15))) (.op 8 true (.mk (some 18) none (.fieldAddr 6 (.tmp 1))) (.op 9 true (.mk (some 19) none (.load none (.tmp 18))) (.op 12 true (.mk (some 22) none (.fieldAddr 5 (.tmp 1))) (.op 13 true (.mk (some 23) none (.load none (.tmp 22))) (.alt (.op 4 false (.mk (some 14) none (.load none (.tmp 13))) (.op 7 false (.mk (some 17) none (.call 28 [.tmp 16])) (.op 10 false (.mk (some 20) none (.call 29 [.tmp 19])) (.op 11 true (.mk (some 21) none (.build [.g .nilp, .g .nilp] [(0, 1, .tmp 17), (1, 1, .tmp 20)])) (.op 14 false (.mk (some 24) none (.call 28 [.tmp 23])) (.op 15 false (.mk (some 25) none (.call 29 [.cst (.g (.int .i64 (.lit 1)))])) (.op 16 false (.mk (some 26) none (.build [.g .nilp, .g .nilp] [(0, 1, .tmp 24), (1, 1, .tmp 25)])) (.op 17 false (.mk (some 27) none (.build [.g .nilp, .g .nilp, .g .nilp, .g .nilp] [(0, 2, .tmp 21), (2, 2, .tmp 26)])) (.op 18 false (.mk (some 28) none (.buildSlice 4 [.g .nilp, .g .nilp, .g .nilp, .g .nilp] 1 [(0, .tmp 27)])) (.op 19 false (.mk (some 29) none (.append 4 32 [.g .nilp, .g .nilp, .g .nilp, .g .nilp] (.tmp 14) (.tmp 28))) (.op 20 false (.mk (some 30) none (.nilCheck (.tmp 10))) (.op 21 false (.mk (some 31) none (.fieldAddr 0 (.tmp 30))) (.op 22 false (.mk none none (.store 1 (.tmp 31) (.tmp 29))) .nil))))))))))))) (.op 7 false (.mk (some 17) none (.call 28 [.tmp 16])) (.alt (.op 4 false (.mk (some 14) none (.load none (.tmp 13))) (.op 10 false (.mk (some 20) none (.call 29 [.tmp 19])) (.op 11 true (.mk (some 21) none (.build [.g .nilp, .g .nilp] [(0, 1, .tmp 17), (1, 1, .tmp 20)])) (.op 14 false (.mk (some 24) none (.call 28 [.tmp 23])) (.op 15 false (.mk (some 25) none (.call 29 [.cst (.g (.int .i64 (.lit 1)))])) (.op 16 false (.mk (some 26) none (.build [.g .nilp, .g .nilp] [(0, 1, .tmp 24), (1, 1, .tmp 25)])) (.op 17 false (.mk (some 27) none (.build [.g .nilp, .g .nilp, .g .nilp, .g .nilp] [(0, 2, .tmp 21), (2, 2, .tmp 26)])) (.op 18 false (.mk (some 28) none (.buildSlice 4 [.g .nilp, .g .nilp, .g .nilp, .g .nilp] 1 [(0, .tmp 27)])) (.op 19 false (.mk (some 29) none (.append 4 32 [.g .nilp, .g .nilp, .g .nilp, .g .nilp] (.tmp 14) (.tmp 28))) (.op 20 false (.mk (some 30) none (.nilCheck (.tmp 10))) (.op 21 false (.mk (some 31) none (.fieldAddr 0 (.tmp 30))) (.op 22 false (.mk none none (.store 1 (.tmp 31) (.tmp 29))) .nil)))))))))))) (.op 10 false (.mk (some 20) none (.call 29 [.tmp 19])) (.op 11 true (.mk (some 21) none (.build [.g .nilp, .g .nilp] [(0, 1, .tmp 17), (1, 1, .tmp 20)])) (.alt (.op 4 false (.mk (some 14) none (.load none (.tmp 13))) (.op 14 false (.mk (some 24) none (.call 28 [.tmp 23])) (.op 15 false (.mk (some 25) none (.call 29 [.cst (.g (.int .i64 (.lit 1)))])) (.op 16 false (.mk (some 26) none (.build [.g .nilp, .g .nilp] [(0, 1, .tmp 24), (1, 1, .tmp 25)])) (.op 17 false (.mk (some 27) none (.build [.g .nilp, .g .nilp, .g .nilp, .g .nilp] [(0, 2, .tmp 21), (2, 2, .tmp 26)])) (.op 18 false (.mk (some 28) none (.buildSlice 4 [.g .nilp, .g .nilp, .g .nilp, .g .nilp] 1 [(0, .tmp 27)])) (.op 19 false (.mk (some 29) none (.append 4 32 [.g .nilp, .g .nilp, .g .nilp, .g .nilp] (.tmp 14) (.tmp 28))) (.op 20 false (.mk (some 30) none (.nilCheck (.tmp 10))) (.op 21 false (.mk (some 31) none (.fieldAddr 0 (.tmp 30))) (.op 22 false (.mk none none (.store 1 (.tmp 31) (.tmp 29))) .nil)))))))))) (.op 14 false (.mk (some 24) none (.call 28 [.tmp 23])) (.alt (.op 4 false (.mk (some 14) none (.load none (.tmp 13))) (.op 15 false (.mk (some 25) none (.call 29 [.cst (.g (.int .i64 (.lit 1)))])) (.op 16 false (.mk (some 26) none (.build [.g .nilp, .g .nilp] [(0, 1, .tmp 24), (1, 1, .tmp 25)])) (.op 17 false (.mk (some 27) none (.build [.g .nilp, .g .nilp, .g .nilp, .g .nilp] [(0, 2, .tmp 21), (2, 2, .tmp 26)])) (.op 18 false (.mk (some 28) none (.buildSlice 4 [.g .nilp, .g .nilp, .g .nilp, .g .nilp] 1 [(0, .tmp 27)])) (.op 19 false (.mk (some 29) none (.append 4 32 [.g .nilp, .g .nilp, .g .nilp, .g .nilp] (.tmp 14) (.tmp 28))) (.op 20 false (.mk (some 30) none (.nilCheck (.tmp 10))) (.op 21 false (.mk (some 31) none (.fieldAddr 0 (.tmp 30))) (.op 22 false (.mk none none (.store 1 (.tmp 31) (.tmp 29))) .nil))))))))) (.op 15 false (.mk (some 25) none (.call 29 [.cst (.g (.int .i64 (.lit 1)))])) (.op 16 true (.mk (some 26) none (.build [.g .nilp, .g .nilp] [(0, 1, .tmp 24), (1, 1, .tmp 25)])) (.op 17 true (.mk (some 27) none (.build [.g .nilp, .g .nilp, .g .nilp, .g .nilp] [(0, 2, .tmp 21), (2, 2, .tmp 26)])) (.alt (.op 4 false (.mk (some 14) none (.load none (.tmp 13))) (.op 18 false (.mk (some 28) none (.buildSlice 4 [.g .nilp, .g .nilp, .g .nilp, .g .nilp] 1 [(0, .tmp 27)])) (.op 19 false (.mk (some 29) none (.append 4 32 [.g .nilp, .g .nilp, .g .nilp, .g .nilp] (.tmp 14) (.tmp 28))) (.op 20 false (.mk (some 30) none (.nilCheck (.tmp 10))) (.op 21 false (.mk (some 31) none (.fieldAddr 0 (.tmp 30))) (.op 22 false (.mk none none (.store 1 (.tmp 31) (.tmp 29))) .nil)))))) (.op 18 false (.mk (some 28) none (.buildSlice 4 [.g .nilp, .g .nilp, .g .nilp, .g .nilp] 1 [(0, .tmp 27)])) (.op 4 false (.mk (some 14) none (.load none (.tmp 13))) (.op 19 false (.mk (some 29) none (.append 4 32 [.g .nilp, .g .nilp, .g .nilp, .g .nilp] (.tmp 14) (.tmp 28))) (.op 20 false (.mk (some 30) none (.nilCheck (.tmp 10))) (.op 21 false (.mk (some 31) none (.fieldAddr 0 (.tmp 30))) (.op 22 false (.mk none none (.store 1 (.tmp 31) (.tmp 29))) .nil)))))))))))))))))))))))))))))) (.ops [.mk (some 32) none (.bin .add (.tmp 8) (.cst (.g (.int .i64 (.lit 1))))), .mk (some 8) none (.move (.tmp 32))]))))))) (.seq (.ops [.mk (some 33) none (.move (.tmp 3)), .mk (some 2) none (.move (.tmp 33))]) .ret))))
theorem c8 : compF Try.prog 8 = some x8 := by kernel_rfl
/-- chaplet/chapletkeep.Within -/
def x9 : XF := XF.mk 17 [.tmp 4] (.seq (.ops [.mk (some 4) none (.move (.cst (.g (.int .i64 (.lit 0)))))]) (.seq (.seq (.ops [.mk (some 6) none (.move (.tmp 1)), .mk (some 7) none (.cmp .lss (.tmp 6) (.cst (.g (.int .i64 (.lit 1)))))]) (.cond (.tmp 7) (.seq (.ops [.mk (some 4) none (.move (.cst (.g (.int .i64 (.lit 0)))))]) .ret) .skip)) (.seq (.ops [.mk (some 8) none (.move (.tmp 0)), .mk (some 9) none (.move (.tmp 1)), .mk (some 10) none (.div .rem (.tmp 8) (.tmp 9)), .mk (some 5) none (.move (.tmp 10))]) (.seq (.seq (.ops [.mk (some 11) none (.move (.tmp 5)), .mk (some 12) none (.cmp .lss (.tmp 11) (.cst (.g (.int .i64 (.lit 0)))))]) (.cond (.tmp 12) (.ops [.mk (some 13) none (.move (.tmp 5)), .mk (some 14) none (.move (.tmp 1)), .mk (some 15) none (.bin .add (.tmp 13) (.tmp 14)), .mk (some 5) none (.move (.tmp 15))]) .skip)) (.seq (.ops [.mk (some 16) none (.move (.tmp 5)), .mk (some 4) none (.move (.tmp 16))]) .ret)))))
theorem c9 : compF Try.prog 9 = some x9 := by kernel_rfl
/-- (*chaplet/fabric.Fabric).Send -/
def x10 : XF := XF.mk 37 [.tmp 4] (.seq (.ops [.mk (some 3) none (.box (.tmp 1)), .mk (some 4) none (.move (.cst (.g (.int .i64 (.lit 0)))))]) (.seq (.seq (.ops [.mk (some 5) none (.load (some 9) (.tmp 3)), .mk (some 6) none (.call 30 [.tmp 5]), .mk (some 7) none (.cmp .neq (.tmp 6) (.cst (.g (.int .i64 (.lit 0))))), .mk (some 8) none (.move (.tmp 7)), .mk (some 9) (some (8, false)) (.move (.tmp 0)), .mk (some 10) (some (8, false)) (.fieldAddr 1 (.tmp 3)), .mk (some 11) (some (8, false)) (.load none (.tmp 10)), .mk (some 12) (some (8, false)) (.call 31 [.tmp 9, .tmp 11]), .mk (some 13) (some (8, false)) (.not (.tmp 12)), .mk (some 14) none (.pick (.tmp 8) (.cst (.g (.bool (.lit true)))) (.tmp 13)), .mk (some 15) none (.move (.tmp 14)), .mk (some 16) (some (15, false)) (.move (.tmp 0)), .mk (some 17) (some (15, false)) (.fieldAddr 2 (.tmp 3)), .mk (some 18) (some (15, false)) (.load none (.tmp 17)), .mk (some 19) (some (15, false)) (.call 31 [.tmp 16, .tmp 18]), .mk (some 20) (some (15, false)) (.not (.tmp 19)), .mk (some 21) none (.pick (.tmp 15) (.cst (.g (.bool (.lit true)))) (.tmp 20))]) (.cond (.tmp 21) (.seq (.ops [.mk (some 4) none (.move (.cst (.g (.int .i64 (.lit 1)))))]) .ret) .skip)) (.seq (.drawn 3 (.op 0 true (.mk (some 22) none (.move (.tmp 0))) (.op 1 true (.mk (some 23) none (.nilCheck (.tmp 22))) (.op 2 true (.mk (some 24) none (.fieldAddr 0 (.tmp 23))) (.op 3 true (.mk (some 25) none (.load none (.tmp 24))) (.op 4 true (.mk (some 26) none (.fieldAddr 1 (.tmp 3))) (.op 5 true (.mk (some 27) none (.load none (.tmp 26))) (.op 6 true (.mk (some 28) none (.indexAddr none 4 (.tmp 25) (.tmp 27))) (.op 7 true (.mk (some 29) none (.load (some 4) (.tmp 28))) (.op 8 true (.mk (some 30) none (.fieldAddr 0 (.tmp 3))) (.op 9 true (.mk (some 31) none (.load none (.tmp 30))) (.op 13 true (.mk (some 35) none (.load (some 9) (.tmp 3))) (.op 10 false (.mk (some 32) none (.call 33 [.tmp 31])) (.op 11 false (.mk (some 33) none (.call 32 [.tmp 29, .tmp 32])) (.op 12 false (.mk (some 34) none (.field 0 none (.tmp 33))) (.op 14 false (.mk (some 36) none (.call 34 [.tmp 34, .tmp 35])) (.op 15 false (.mk (some 4) none (.move (.tmp 36))) .nil))))))))))))))))) .ret)))
theorem c10 : compF Try.prog 10 = some x10 := by kernel_rfl
/-- (*chaplet/fabric.Fabric).Under -/
def x11 : XF := XF.mk 20 [.tmp 2] (.seq (.ops [.mk (some 2) none (.move (.cst (.g (.int .i64 (.lit 0)))))]) (.seq (.ops [.mk (some 3) none (.move (.cst (.g (.int .i64 (.lit 0)))))]) (.seq (.seq (.ops [.mk (some 6) none (.move (.tmp 0)), .mk (some 7) none (.call 35 [.tmp 6]), .mk (some 8) none (.len (.tmp 7)), .mk (some 9) none (.move (.cst (.g (.int .i64 (.lit 0)))))]) (.block 0 (.loop (.seq (.ops [.mk (some 10) none (.cmp .lss (.tmp 9) (.tmp 8))]) (.seq (.cond (.tmp 10) .skip (.exit 0)) (.seq (.block 1 (.seq (.ops [.mk (some 11) none (.indexAddr none 2 (.tmp 7) (.tmp 9)), .mk (some 12) none (.load (some 2) (.tmp 11)), .mk (some 5) none (.alloc [.g .nilp, .g .nilp]), .mk none none (.store 2 (.tmp 5) (.tmp 12))]) (.ops [.mk (some 13) none (.move (.tmp 3)), .mk (some 14) none (.fieldAddr 0 (.tmp 5)), .mk (some 15) none (.load none (.tmp 14)), .mk (some 16) none (.call 36 [.tmp 15]), .mk (some 17) none (.bin .add (.tmp 13) (.tmp 16)), .mk (some 3) none (.move (.tmp 17))]))) (.ops [.mk (some 18) none (.bin .add (.tmp 9) (.cst (.g (.int .i64 (.lit 1))))), .mk (some 9) none (.move (.tmp 18))]))))))) (.seq (.ops [.mk (some 19) none (.move (.tmp 3)), .mk (some 2) none (.move (.tmp 19))]) .ret))))
theorem c11 : compF Try.prog 11 = some x11 := by kernel_rfl
/-- (*chaplet/fabric.Fabric).Packet -/
def x12 : XF := XF.mk 29 [.cell 4 (some 9), .tmp 5] (.seq (.ops [.mk (some 4) none (.alloc [.g (.int .i64 (.lit 0)), .g (.int .i64 (.lit 0)), .g (.int .i64 (.lit 0)), .g (.int .i64 (.lit 0)), .g (.int .i64 (.lit 0)), .g (.int .i64 (.lit 0)), .g (.int .i64 (.lit 0)), .g (.bool (.lit false)), .g .nil]), .mk (some 5) none (.move (.cst (.g (.bool (.lit false)))))]) (.seq (.ops [.mk (some 10) none (.move (.tmp 0)), .mk (some 11) none (.move (.tmp 1)), .mk (some 12) none (.call 37 [.tmp 10, .tmp 11]), .mk (some 9) none (.move (.tmp 12)), .mk (some 13) none (.extract (.tmp 9) 0), .mk (some 14) none (.extract (.tmp 9) 1), .mk (some 15) none (.extract (.tmp 9) 2), .mk (some 6) none (.alloc [.g .nilp, .g .nilp]), .mk none none (.store 2 (.tmp 6) (.tmp 13)), .mk (some 7) none (.move (.tmp 14)), .mk (some 8) none (.move (.tmp 15))]) (.seq (.seq (.ops [.mk (some 16) none (.move (.tmp 8)), .mk (some 17) none (.not (.tmp 16)), .mk (some 18) none (.move (.tmp 17)), .mk (some 19) (some (18, false)) (.move (.tmp 1)), .mk (some 20) (some (18, false)) (.cmp .lss (.tmp 19) (.cst (.g (.int .i64 (.lit 0))))), .mk (some 21) none (.pick (.tmp 18) (.cst (.g (.bool (.lit true)))) (.tmp 20))]) (.cond (.tmp 21) (.seq (.ops [.mk (some 22) none (.build [.g (.int .i64 (.lit 0)), .g (.int .i64 (.lit 0)), .g (.int .i64 (.lit 0)), .g (.int .i64 (.lit 0)), .g (.int .i64 (.lit 0)), .g (.int .i64 (.lit 0)), .g (.int .i64 (.lit 0)), .g (.bool (.lit false)), .g .nil] []), .mk none none (.store 9 (.tmp 4) (.tmp 22)), .mk (some 5) none (.move (.cst (.g (.bool (.lit false)))))]) .ret) .skip)) (.seq (.ops [.mk (some 23) none (.fieldAddr 0 (.tmp 6)), .mk (some 24) none (.load none (.tmp 23)), .mk (some 25) none (.move (.tmp 7)), .mk (some 26) none (.call 38 [.tmp 24, .tmp 25]), .mk (some 27) none (.extract (.tmp 26) 0), .mk (some 28) none (.extract (.tmp 26) 1), .mk none none (.store 9 (.tmp 4) (.tmp 27)), .mk (some 5) none (.move (.tmp 28))]) .ret))))
theorem c12 : compF Try.prog 12 = some x12 := by kernel_rfl
/-- (*chaplet/fabric.Fabric).Deliver -/
def x14 : XF := XF.mk 63 [.tmp 8] (.seq (.ops [.mk (some 8) none (.move (.cst (.g (.int .i64 (.lit 0)))))]) (.seq (.ops [.mk (some 17) none (.move (.tmp 0)), .mk (some 18) none (.move (.tmp 1)), .mk (some 19) none (.call 12 [.tmp 17, .tmp 18]), .mk (some 16) none (.move (.tmp 19)), .mk (some 20) none (.extract (.tmp 16) 0), .mk (some 21) none (.extract (.tmp 16) 1), .mk (some 9) none (.alloc [.g (.int .i64 (.lit 0)), .g (.int .i64 (.lit 0)), .g (.int .i64 (.lit 0)), .g (.int .i64 (.lit 0)), .g (.int .i64 (.lit 0)), .g (.int .i64 (.lit 0)), .g (.int .i64 (.lit 0)), .g (.bool (.lit false)), .g .nil]), .mk none none (.store 9 (.tmp 9) (.tmp 20)), .mk (some 10) none (.move (.tmp 21))]) (.seq (.seq (.ops [.mk (some 22) none (.move (.tmp 10)), .mk (some 23) none (.not (.tmp 22))]) (.cond (.tmp 23) (.seq (.ops [.mk (some 8) none (.move (.cst (.g (.int .i64 (.lit 3)))))]) .ret) .skip)) (.seq (.ops [.mk (some 25) none (.load (some 9) (.tmp 9)), .mk (some 26) none (.move (.tmp 2)), .mk (some 27) none (.move (.tmp 3)), .mk (some 28) none (.call 39 [.tmp 25, .tmp 26, .tmp 27]), .mk (some 24) none (.move (.tmp 28)), .mk (some 29) none (.extract (.tmp 24) 0), .mk (some 30) none (.extract (.tmp 24) 1), .mk none none (.store 9 (.tmp 9) (.tmp 29)), .mk (some 11) none (.move (.tmp 30))]) (.seq (.seq (.ops [.mk (some 31) none (.move (.tmp 11)), .mk (some 32) none (.cmp .neq (.tmp 31) (.cst (.g (.int .i64 (.lit 0)))))]) (.cond (.tmp 32) (.seq (.ops [.mk (some 33) none (.move (.tmp 11)), .mk (some 8) none (.move (.tmp 33))]) .ret) .skip)) (.seq (.seq (.drawn 7 (.op 0 true (.mk (some 34) none (.move (.tmp 0))) (.op 1 true (.mk (some 35) none (.nilCheck (.tmp 34))) (.op 2 true (.mk (some 36) none (.fieldAddr 0 (.tmp 35))) (.op 3 true (.mk (some 37) none (.load none (.tmp 36))) (.op 4 true (.mk (some 38) none (.fieldAddr 2 (.tmp 9))) (.op 5 true (.mk (some 39) none (.load none (.tmp 38))) (.op 6 true (.mk (some 40) none (.indexAddr none 4 (.tmp 37) (.tmp 39))) (.op 7 true (.mk (some 41) none (.load (some 4) (.tmp 40))) (.op 8 true (.mk (some 42) none (.fieldAddr 0 (.tmp 9))) (.op 9 true (.mk (some 43) none (.load none (.tmp 42))) (.op 13 true (.mk (some 47) none (.load (some 9) (.tmp 9))) (.op 10 false (.mk (some 44) none (.call 33 [.tmp 43])) (.op 11 false (.mk (some 45) none (.call 32 [.tmp 41, .tmp 44])) (.op 12 false (.mk (some 46) none (.field 1 none (.tmp 45))) (.op 14 false (.mk (some 48) none (.call 40 [.tmp 46, .tmp 47])) (.op 15 false (.mk (some 12) none (.move (.tmp 48))) .nil))))))))))))))))) (.seq (.ops [.mk (some 49) none (.move (.tmp 12)), .mk (some 50) none (.cmp .neq (.tmp 49) (.cst (.g (.int .i64 (.lit 0)))))]) (.cond (.tmp 50) (.seq (.ops [.mk (some 51) none (.move (.tmp 12)), .mk (some 8) none (.move (.tmp 51))]) .ret) .skip))) (.seq (.ops [.mk (some 53) none (.move (.tmp 0)), .mk (some 54) none (.move (.tmp 1)), .mk (some 55) none (.call 37 [.tmp 53, .tmp 54]), .mk (some 52) none (.move (.tmp 55)), .mk (some 56) none (.extract (.tmp 52) 0), .mk (some 57) none (.extract (.tmp 52) 1), .mk (some 58) none (.extract (.tmp 52) 2), .mk (some 13) none (.alloc [.g .nilp, .g .nilp]), .mk none none (.store 2 (.tmp 13) (.tmp 56)), .mk (some 14) none (.move (.tmp 57)), .mk (some 15) none (.move (.tmp 58))]) (.seq (.ops [.mk (some 59) none (.fieldAddr 0 (.tmp 13)), .mk (some 60) none (.load none (.tmp 59)), .mk (some 61) none (.move (.tmp 14)), .mk (some 62) none (.call 41 [.tmp 60, .tmp 61])]) (.seq (.ops [.mk (some 8) none (.move (.cst (.g (.int .i64 (.lit 0)))))]) .ret)))))))))
theorem c14 : compF Try.prog 14 = some x14 := by kernel_rfl
/-- (*chaplet/fabric.Fabric).Request -/
def x15 : XF := XF.mk 11 [.cell 4 (some 9), .tmp 5] (.seq (.ops [.mk (some 4) none (.alloc [.g (.int .i64 (.lit 0)), .g (.int .i64 (.lit 0)), .g (.int .i64 (.lit 0)), .g (.int .i64 (.lit 0)), .g (.int .i64 (.lit 0)), .g (.int .i64 (.lit 0)), .g (.int .i64 (.lit 0)), .g (.bool (.lit false)), .g .nil]), .mk (some 5) none (.move (.cst (.g (.bool (.lit false)))))]) (.seq (.ops [.mk (some 6) none (.move (.tmp 0)), .mk (some 7) none (.move (.tmp 1)), .mk (some 8) none (.call 42 [.tmp 6, .tmp 7, .cst (.g (.bool (.lit true)))]), .mk (some 9) none (.extract (.tmp 8) 0), .mk (some 10) none (.extract (.tmp 8) 1), .mk none none (.store 9 (.tmp 4) (.tmp 9)), .mk (some 5) none (.move (.tmp 10))]) .ret))
theorem c15 : compF Try.prog 15 = some x15 := by kernel_rfl
/-- chaplet/chapletlaw06.wakes -/
def x16 : XF := XF.mk 50 [.tmp 0] (.seq (.ops [.mk (some 0) none (.move (.cst (.g (.bool (.lit false)))))]) (.seq (.ops [.mk (some 4) none (.build [.g (.int .i64 (.lit 0)), .g (.int .i64 (.lit 0)), .g (.int .i64 (.lit 0)), .g (.int .i64 (.lit 0)), .g (.int .i64 (.lit 0)), .g (.int .i64 (.lit 0)), .g (.int .i64 (.lit 0)), .g .nil] [(0, 1, .cst (.g (.int .i64 (.lit 2)))), (1, 1, .cst (.g (.int .i64 (.lit 1)))), (2, 1, .cst (.g (.int .i64 (.lit 1)))), (3, 1, .cst (.g (.int .i64 (.lit 1)))), (4, 1, .cst (.g (.int .i64 (.lit 1)))), (5, 1, .cst (.g (.int .i64 (.lit 1)))), (6, 1, .cst (.g (.int .i64 (.lit 1))))]), .mk (some 5) none (.call 8 [.tmp 4]), .mk (some 1) none (.move (.tmp 5))]) (.seq (.seq (.ops [.mk (some 6) none (.move (.tmp 1)), .mk (some 7) none (.eq false .ptr (.tmp 6) (.cst (.g .nilp))), .mk (some 8) none (.move (.tmp 7)), .mk (some 9) (some (8, false)) (.move (.tmp 1)), .mk (some 10) (some (8, false)) (.call 11 [.tmp 9]), .mk (some 11) (some (8, false)) (.cmp .neq (.tmp 10) (.cst (.g (.int .i64 (.lit 0))))), .mk (some 12) none (.pick (.tmp 8) (.cst (.g (.bool (.lit true)))) (.tmp 11)), .mk (some 13) none (.move (.tmp 12)), .mk (some 14) (some (13, false)) (.move (.tmp 1)), .mk (some 15) (some (13, false)) (.build [.g (.int .i64 (.lit 0)), .g (.int .i64 (.lit 0)), .g (.int .i64 (.lit 0)), .g (.int .i64 (.lit 0)), .g (.int .i64 (.lit 0)), .g (.int .i64 (.lit 0)), .g (.int .i64 (.lit 0)), .g (.bool (.lit false)), .g .nil] [(0, 1, .cst (.g (.int .i64 (.lit 1)))), (2, 1, .cst (.g (.int .i64 (.lit 1))))]), .mk (some 16) (some (13, false)) (.call 10 [.tmp 14, .tmp 15]), .mk (some 17) (some (13, false)) (.cmp .neq (.tmp 16) (.cst (.g (.int .i64 (.lit 0))))), .mk (some 18) none (.pick (.tmp 13) (.cst (.g (.bool (.lit true)))) (.tmp 17)), .mk (some 19) none (.move (.tmp 18)), .mk (some 20) (some (19, false)) (.move (.tmp 1)), .mk (some 21) (some (19, false)) (.call 11 [.tmp 20]), .mk (some 22) (some (19, false)) (.cmp .neq (.tmp 21) (.cst (.g (.int .i64 (.lit 1))))), .mk (some 23) none (.pick (.tmp 19) (.cst (.g (.bool (.lit true)))) (.tmp 22)), .mk (some 24) none (.move (.tmp 23)), .mk (some 25) (some (24, false)) (.move (.tmp 1)), .mk (some 26) (some (24, false)) (.call 14 [.tmp 25, .cst (.g (.int .i64 (.lit 0))), .cst (.g (.int .i64 (.lit 3))), .cst (.g (.int .u16 (.lit 5)))]), .mk (some 27) (some (24, false)) (.cmp .neq (.tmp 26) (.cst (.g (.int .i64 (.lit 2))))), .mk (some 28) none (.pick (.tmp 24) (.cst (.g (.bool (.lit true)))) (.tmp 27)), .mk (some 29) none (.move (.tmp 28)), .mk (some 30) (some (29, false)) (.move (.tmp 1)), .mk (some 31) (some (29, false)) (.call 14 [.tmp 30, .cst (.g (.int .i64 (.lit 0))), .cst (.g (.int .i64 (.lit 0))), .cst (.g (.int .u16 (.lit 0)))]), .mk (some 32) (some (29, false)) (.cmp .neq (.tmp 31) (.cst (.g (.int .i64 (.lit 0))))), .mk (some 33) none (.pick (.tmp 29) (.cst (.g (.bool (.lit true)))) (.tmp 32))]) (.cond (.tmp 33) (.seq (.ops [.mk (some 0) none (.move (.cst (.g (.bool (.lit false)))))]) .ret) .skip)) (.seq (.ops [.mk (some 35) none (.move (.tmp 1)), .mk (some 36) none (.call 15 [.tmp 35, .cst (.g (.int .i64 (.lit 1)))]), .mk (some 34) none (.move (.tmp 36)), .mk (some 37) none (.extract (.tmp 34) 0), .mk (some 38) none (.extract (.tmp 34) 1), .mk (some 2) none (.alloc [.g (.int .i64 (.lit 0)), .g (.int .i64 (.lit 0)), .g (.int .i64 (.lit 0)), .g (.int .i64 (.lit 0)), .g (.int .i64 (.lit 0)), .g (.int .i64 (.lit 0)), .g (.int .i64 (.lit 0)), .g (.bool (.lit false)), .g .nil]), .mk none none (.store 9 (.tmp 2) (.tmp 37)), .mk (some 3) none (.move (.tmp 38))]) (.seq (.ops [.mk (some 39) none (.move (.tmp 3)), .mk (some 40) none (.move (.tmp 39)), .mk (some 41) (some (40, true)) (.fieldAddr 0 (.tmp 2)), .mk (some 42) (some (40, true)) (.load none (.tmp 41)), .mk (some 43) (some (40, true)) (.cmp .eql (.tmp 42) (.cst (.g (.int .i64 (.lit 1))))), .mk (some 44) none (.pick (.tmp 40) (.tmp 43) (.cst (.g (.bool (.lit false))))), .mk (some 45) none (.move (.tmp 44)), .mk (some 46) (some (45, true)) (.move (.tmp 1)), .mk (some 47) (some (45, true)) (.call 11 [.tmp 46]), .mk (some 48) (some (45, true)) (.cmp .eql (.tmp 47) (.cst (.g (.int .i64 (.lit 0))))), .mk (some 49) none (.pick (.tmp 45) (.tmp 48) (.cst (.g (.bool (.lit false))))), .mk (some 0) none (.move (.tmp 49))]) .ret)))))
theorem c16 : compF Try.prog 16 = some x16 := by kernel_rfl
/-- (*chaplet/fabric.Fabric).Room -/
def x17 : XF := XF.mk 22 [.tmp 6] (.seq (.ops [.mk (some 6) none (.move (.cst (.g (.int .i64 (.lit 0)))))]) (.seq (.seq (.ops [.mk (some 7) none (.move (.tmp 0)), .mk (some 8) none (.move (.tmp 1)), .mk (some 9) none (.call 31 [.tmp 7, .tmp 8]), .mk (some 10) none (.not (.tmp 9))]) (.cond (.tmp 10) (.seq (.ops [.mk (some 6) none (.move (.cst (.g (.int .i64 (.lit 0)))))]) .ret) .skip)) (.seq (.ops [.mk (some 11) none (.move (.tmp 0)), .mk (some 12) none (.nilCheck (.tmp 11)), .mk (some 13) none (.fieldAddr 0 (.tmp 12)), .mk (some 14) none (.load none (.tmp 13)), .mk (some 15) none (.move (.tmp 1)), .mk (some 16) none (.indexAddr none 4 (.tmp 14) (.tmp 15)), .mk (some 17) none (.load (some 4) (.tmp 16)), .mk (some 18) none (.move (.tmp 2)), .mk (some 19) none (.call 32 [.tmp 17, .tmp 18]), .mk (some 20) none (.field 0 none (.tmp 19)), .mk (some 21) none (.call 43 [.tmp 20]), .mk (some 6) none (.move (.tmp 21))]) .ret)))
theorem c17 : compF Try.prog 17 = some x17 := by kernel_rfl
/-- chaplet/pool.New -/
def x28 : XF := XF.mk 7 [.tmp 2] (.seq (.ops [.mk (some 2) none (.move (.cst (.g .nilp)))]) (.seq (.ops [.mk (some 3) none (.move (.tmp 0)), .mk (some 4) none (.mnmx true (.cst (.g (.int .i64 (.lit 0)))) [.tmp 3]), .mk (some 5) none (.build [.g .nil, .g (.int .i64 (.lit 0))] [(1, 1, .tmp 4)]), .mk (some 6) none (.box (.tmp 5)), .mk (some 2) none (.move (.tmp 6))]) .ret))
theorem c28 : compF Try.prog 28 = some x28 := by kernel_rfl
/-- chaplet/queue.New -/
def x29 : XF := XF.mk 7 [.tmp 2] (.seq (.ops [.mk (some 2) none (.move (.cst (.g .nilp)))]) (.seq (.ops [.mk (some 3) none (.move (.tmp 0)), .mk (some 4) none (.mnmx true (.cst (.g (.int .i64 (.lit 0)))) [.tmp 3]), .mk (some 5) none (.build [.g .nil, .g (.int .i64 (.lit 0))] [(1, 1, .tmp 4)]), .mk (some 6) none (.box (.tmp 5)), .mk (some 2) none (.move (.tmp 6))]) .ret))
theorem c29 : compF Try.prog 29 = some x29 := by kernel_rfl
/-- chaplet/packet.Check -/
def x30 : XF := XF.mk 49 [.tmp 2] (.seq (.ops [.mk (some 1) none (.box (.tmp 0)), .mk (some 2) none (.move (.cst (.g (.int .i64 (.lit 0)))))]) (.seq (.ops [.mk (some 5) none (.fieldAddr 1 (.tmp 1)), .mk (some 6) none (.load none (.tmp 5)), .mk (some 7) none (.call 53 [.tmp 6, .cst (.g (.int .i64 (.lit 0))), .cst (.g (.int .i64 (.lit 6)))]), .mk (some 8) none (.move (.tmp 7)), .mk (some 9) (some (8, true)) (.fieldAddr 2 (.tmp 1)), .mk (some 10) (some (8, true)) (.load none (.tmp 9)), .mk (some 11) (some (8, true)) (.call 53 [.tmp 10, .cst (.g (.int .i64 (.lit 0))), .cst (.g (.int .i64 (.lit 6)))]), .mk (some 12) none (.pick (.tmp 8) (.tmp 11) (.cst (.g (.bool (.lit false))))), .mk (some 13) none (.move (.tmp 12)), .mk (some 14) (some (13, true)) (.fieldAddr 3 (.tmp 1)), .mk (some 15) (some (13, true)) (.load none (.tmp 14)), .mk (some 16) (some (13, true)) (.call 53 [.tmp 15, .cst (.g (.int .i64 (.lit 0))), .cst (.g (.int .i64 (.lit 4096)))]), .mk (some 17) none (.pick (.tmp 13) (.tmp 16) (.cst (.g (.bool (.lit false))))), .mk (some 3) none (.move (.tmp 17))]) (.seq (.ops [.mk (some 18) none (.fieldAddr 0 (.tmp 1)), .mk (some 19) none (.load none (.tmp 18)), .mk (some 20) none (.call 53 [.tmp 19, .cst (.g (.int .i64 (.lit 1))), .cst (.g (.int .i64 (.lit 10)))]), .mk (some 21) none (.move (.tmp 20)), .mk (some 22) (some (21, true)) (.fieldAddr 4 (.tmp 1)), .mk (some 23) (some (21, true)) (.load none (.tmp 22)), .mk (some 24) (some (21, true)) (.call 53 [.tmp 23, .cst (.g (.int .i64 (.lit 0))), .cst (.g (.int .i64 (.lit 8)))]), .mk (some 25) none (.pick (.tmp 21) (.tmp 24) (.cst (.g (.bool (.lit false))))), .mk (some 26) none (.move (.tmp 25)), .mk (some 27) (some (26, true)) (.fieldAddr 5 (.tmp 1)), .mk (some 28) (some (26, true)) (.load none (.tmp 27)), .mk (some 29) (some (26, true)) (.call 53 [.tmp 28, .cst (.g (.int .i64 (.lit (-1)))), .cst (.g (.int .i64 (.lit 6)))]), .mk (some 30) none (.pick (.tmp 26) (.tmp 29) (.cst (.g (.bool (.lit false))))), .mk (some 4) none (.move (.tmp 30))]) (.seq (.seq (.ops [.mk (some 31) none (.move (.tmp 3)), .mk (some 32) none (.not (.tmp 31)), .mk (some 33) none (.move (.tmp 32)), .mk (some 34) (some (33, false)) (.move (.tmp 4)), .mk (some 35) (some (33, false)) (.not (.tmp 34)), .mk (some 36) none (.pick (.tmp 33) (.cst (.g (.bool (.lit true)))) (.tmp 35)), .mk (some 37) none (.move (.tmp 36)), .mk (some 38) (some (37, false)) (.fieldAddr 6 (.tmp 1)), .mk (some 39) (some (37, false)) (.load none (.tmp 38)), .mk (some 40) (some (37, false)) (.call 53 [.tmp 39, .cst (.g (.int .i64 (.lit 0))), .cst (.g (.int .i64 (.lit 3)))]), .mk (some 41) (some (37, false)) (.not (.tmp 40)), .mk (some 42) none (.pick (.tmp 37) (.cst (.g (.bool (.lit true)))) (.tmp 41)), .mk (some 43) none (.move (.tmp 42)), .mk (some 44) (some (43, false)) (.fieldAddr 8 (.tmp 1)), .mk (some 45) (some (43, false)) (.load none (.tmp 44)), .mk (some 46) (some (43, false)) (.len (.tmp 45)), .mk (some 47) (some (43, false)) (.cmp .gtr (.tmp 46) (.cst (.g (.int .i64 (.lit 4))))), .mk (some 48) none (.pick (.tmp 43) (.cst (.g (.bool (.lit true)))) (.tmp 47))]) (.cond (.tmp 48) (.seq (.ops [.mk (some 2) none (.move (.cst (.g (.int .i64 (.lit 1)))))]) .ret) .skip)) (.seq (.ops [.mk (some 2) none (.move (.cst (.g (.int .i64 (.lit 0)))))]) .ret)))))
theorem c30 : compF Try.prog 30 = some x30 := by kernel_rfl
/-- (*chaplet/fabric.Fabric).is -/
def x31 : XF := XF.mk 16 [.tmp 4] (.seq (.ops [.mk (some 4) none (.move (.cst (.g (.bool (.lit false)))))]) (.seq (.ops [.mk (some 5) none (.move (.tmp 1)), .mk (some 6) none (.cmp .geq (.tmp 5) (.cst (.g (.int .i64 (.lit 0))))), .mk (some 7) none (.move (.tmp 6)), .mk (some 8) (some (7, true)) (.move (.tmp 1)), .mk (some 9) (some (7, true)) (.move (.tmp 0)), .mk (some 10) (some (7, true)) (.nilCheck (.tmp 9)), .mk (some 11) (some (7, true)) (.fieldAddr 0 (.tmp 10)), .mk (some 12) (some (7, true)) (.load none (.tmp 11)), .mk (some 13) (some (7, true)) (.len (.tmp 12)), .mk (some 14) (some (7, true)) (.cmp .lss (.tmp 8) (.tmp 13)), .mk (some 15) none (.pick (.tmp 7) (.tmp 14) (.cst (.g (.bool (.lit false))))), .mk (some 4) none (.move (.tmp 15))]) .ret))
theorem c31 : compF Try.prog 31 = some x31 := by kernel_rfl
/-- (chaplet/fabric.port).sort -/
def x32 : XF := XF.mk 10 [.cell 4 (some 2)] (.seq (.ops [.mk (some 2) none (.box (.tmp 0)), .mk (some 4) none (.alloc [.g .nilp, .g .nilp])]) (.seq (.seq (.ops [.mk (some 5) none (.move (.tmp 1))]) (.cond (.tmp 5) (.seq (.ops [.mk (some 6) none (.fieldAddr 0 (.tmp 2)), .mk (some 7) none (.load (some 2) (.tmp 6)), .mk none none (.store 2 (.tmp 4) (.tmp 7))]) .ret) .skip)) (.seq (.ops [.mk (some 8) none (.fieldAddr 2 (.tmp 2)), .mk (some 9) none (.load (some 2) (.tmp 8)), .mk none none (.store 2 (.tmp 4) (.tmp 9))]) .ret)))
theorem c32 : compF Try.prog 32 = some x32 := by kernel_rfl
/-- chaplet/packet.Request -/
def x33 : XF := XF.mk 9 [.tmp 2] (.seq (.ops [.mk (some 2) none (.move (.cst (.g (.bool (.lit false)))))]) (.seq (.ops [.mk (some 3) none (.move (.tmp 0)), .mk (some 4) none (.cmp .geq (.tmp 3) (.cst (.g (.int .i64 (.lit 1))))), .mk (some 5) none (.move (.tmp 4)), .mk (some 6) (some (5, true)) (.move (.tmp 0)), .mk (some 7) (some (5, true)) (.cmp .leq (.tmp 6) (.cst (.g (.int .i64 (.lit 6))))), .mk (some 8) none (.pick (.tmp 5) (.tmp 7) (.cst (.g (.bool (.lit false))))), .mk (some 2) none (.move (.tmp 8))]) .ret))
theorem c33 : compF Try.prog 33 = some x33 := by kernel_rfl
/-- (*chaplet/pool.Pool).Put -/
def x34 : XF := XF.mk 19 [.tmp 4] (.seq (.ops [.mk (some 3) none (.box (.tmp 1)), .mk (some 4) none (.move (.cst (.g (.int .i64 (.lit 0)))))]) (.seq (.seq (.ops [.mk (some 5) none (.move (.tmp 0)), .mk (some 6) none (.call 43 [.tmp 5]), .mk (some 7) none (.cmp .eql (.tmp 6) (.cst (.g (.int .i64 (.lit 0)))))]) (.cond (.tmp 7) (.seq (.ops [.mk (some 4) none (.move (.cst (.g (.int .i64 (.lit 5)))))]) .ret) .skip)) (.seq (.drawn 3 (.op 0 true (.mk (some 8) none (.move (.tmp 0))) (.op 1 true (.mk (some 9) none (.move (.tmp 0))) (.op 2 true (.mk (some 10) none (.nilCheck (.tmp 9))) (.op 3 true (.mk (some 11) none (.fieldAddr 0 (.tmp 10))) (.op 5 true (.mk (some 13) none (.load (some 9) (.tmp 3))) (.alt (.op 4 false (.mk (some 12) none (.load none (.tmp 11))) (.op 6 false (.mk (some 14) none (.call 54 [.tmp 13])) (.op 7 false (.mk (some 15) none (.buildSlice 9 [.g (.int .i64 (.lit 0)), .g (.int .i64 (.lit 0)), .g (.int .i64 (.lit 0)), .g (.int .i64 (.lit 0)), .g (.int .i64 (.lit 0)), .g (.int .i64 (.lit 0)), .g (.int .i64 (.lit 0)), .g (.bool (.lit false)), .g .nil] 1 [(0, .tmp 14)])) (.op 8 false (.mk (some 16) none (.append 9 88 [.g (.int .i64 (.lit 0)), .g (.int .i64 (.lit 0)), .g (.int .i64 (.lit 0)), .g (.int .i64 (.lit 0)), .g (.int .i64 (.lit 0)), .g (.int .i64 (.lit 0)), .g (.int .i64 (.lit 0)), .g (.bool (.lit false)), .g .nil] (.tmp 12) (.tmp 15))) (.op 9 false (.mk (some 17) none (.nilCheck (.tmp 8))) (.op 10 false (.mk (some 18) none (.fieldAddr 0 (.tmp 17))) (.op 11 false (.mk none none (.store 1 (.tmp 18) (.tmp 16))) .nil))))))) (.op 6 false (.mk (some 14) none (.call 54 [.tmp 13])) (.alt (.op 4 false (.mk (some 12) none (.load none (.tmp 11))) (.op 7 false (.mk (some 15) none (.buildSlice 9 [.g (.int .i64 (.lit 0)), .g (.int .i64 (.lit 0)), .g (.int .i64 (.lit 0)), .g (.int .i64 (.lit 0)), .g (.int .i64 (.lit 0)), .g (.int .i64 (.lit 0)), .g (.int .i64 (.lit 0)), .g (.bool (.lit false)), .g .nil] 1 [(0, .tmp 14)])) (.op 8 false (.mk (some 16) none (.append 9 88 [.g (.int .i64 (.lit 0)), .g (.int .i64 (.lit 0)), .g (.int .i64 (.lit 0)), .g (.int .i64 (.lit 0)), .g (.int .i64 (.lit 0)), .g (.int .i64 (.lit 0)), .g (.int .i64 (.lit 0)), .g (.bool (.lit false)), .g .nil] (.tmp 12) (.tmp 15))) (.op 9 false (.mk (some 17) none (.nilCheck (.tmp 8))) (.op 10 false (.mk (some 18) none (.fieldAddr 0 (.tmp 17))) (.op 11 false (.mk none none (.store 1 (.tmp 18) (.tmp 16))) .nil)))))) (.op 7 false (.mk (some 15) none (.buildSlice 9 [.g (.int .i64 (.lit 0)), .g (.int .i64 (.lit 0)), .g (.int .i64 (.lit 0)), .g (.int .i64 (.lit 0)), .g (.int .i64 (.lit 0)), .g (.int .i64 (.lit 0)), .g (.int .i64 (.lit 0)), .g (.bool (.lit false)), .g .nil] 1 [(0, .tmp 14)])) (.op 4 false (.mk (some 12) none (.load none (.tmp 11))) (.op 8 false (.mk (some 16) none (.append 9 88 [.g (.int .i64 (.lit 0)), .g (.int .i64 (.lit 0)), .g (.int .i64 (.lit 0)), .g (.int .i64 (.lit 0)), .g (.int .i64 (.lit 0)), .g (.int .i64 (.lit 0)), .g (.int .i64 (.lit 0)), .g (.bool (.lit false)), .g .nil] (.tmp 12) (.tmp 15))) (.op 9 false (.mk (some 17) none (.nilCheck (.tmp 8))) (.op 10 false (.mk (some 18) none (.fieldAddr 0 (.tmp 17))) (.op 11 false (.mk none none (.store 1 (.tmp 18) (.tmp 16))) .nil))))))))))))))) (.seq (.ops [.mk (some 4) none (.move (.cst (.g (.int .i64 (.lit 0)))))]) .ret))))
theorem c34 : compF Try.prog 34 = some x34 := by kernel_rfl
/-- (*chaplet/fabric.Fabric).pools -/
def x35 : XF := XF.mk 24 [.tmp 2] (.seq (.ops [.mk (some 2) none (.move (.cst (.g .nil)))]) (.seq (.ops [.mk (some 3) none (.move (.cst (.g .nil)))]) (.seq (.seq (.ops [.mk (some 6) none (.move (.tmp 0)), .mk (some 7) none (.nilCheck (.tmp 6)), .mk (some 8) none (.fieldAddr 0 (.tmp 7)), .mk (some 9) none (.load none (.tmp 8)), .mk (some 10) none (.len (.tmp 9)), .mk (some 11) none (.move (.cst (.g (.int .i64 (.lit 0)))))]) (.block 0 (.loop (.seq (.ops [.mk (some 12) none (.cmp .lss (.tmp 11) (.tmp 10))]) (.seq (.cond (.tmp 12) .skip (.exit 0)) (.seq (.block 1 (.seq (.ops [.mk (some 13) none (.indexAddr none 4 (.tmp 9) (.tmp 11)), .mk (some 14) none (.load (some 4) (.tmp 13)), .mk (some 5) none (.alloc [.g .nilp, .g .nilp, .g .nilp, .g .nilp]), .mk none none (.store 4 (.tmp 5) (.tmp 14))]) (.ops [.mk (some 15) none (.move (.tmp 3)), .mk (some 16) none (.fieldAddr 0 (.tmp 5)), .mk (some 17) none (.load (some 2) (.tmp 16)), .mk (some 18) none (.fieldAddr 2 (.tmp 5)), .mk (some 19) none (.load (some 2) (.tmp 18)), .mk (some 20) none (.buildSlice 2 [.g .nilp, .g .nilp] 2 [(0, .tmp 17), (1, .tmp 19)]), .mk (some 21) none (.append 2 16 [.g .nilp, .g .nilp] (.tmp 15) (.tmp 20)), .mk (some 3) none (.move (.tmp 21))]))) (.ops [.mk (some 22) none (.bin .add (.tmp 11) (.cst (.g (.int .i64 (.lit 1))))), .mk (some 11) none (.move (.tmp 22))]))))))) (.seq (.ops [.mk (some 23) none (.move (.tmp 3)), .mk (some 2) none (.move (.tmp 23))]) .ret))))
theorem c35 : compF Try.prog 35 = some x35 := by kernel_rfl
/-- (*chaplet/pool.Pool).Len -/
def x36 : XF := XF.mk 8 [.tmp 2] (.seq (.ops [.mk (some 2) none (.move (.cst (.g (.int .i64 (.lit 0)))))]) (.seq (.ops [.mk (some 3) none (.move (.tmp 0)), .mk (some 4) none (.nilCheck (.tmp 3)), .mk (some 5) none (.fieldAddr 0 (.tmp 4)), .mk (some 6) none (.load none (.tmp 5)), .mk (some 7) none (.len (.tmp 6)), .mk (some 2) none (.move (.tmp 7))]) .ret))
theorem c36 : compF Try.prog 36 = some x36 := by kernel_rfl
/-- (*chaplet/fabric.Fabric).find -/
def x37 : XF := XF.mk 34 [.cell 4 (some 2), .tmp 5, .tmp 6] (.seq (.ops [.mk (some 4) none (.alloc [.g .nilp, .g .nilp]), .mk (some 5) none (.move (.cst (.g (.int .i64 (.lit 0))))), .mk (some 6) none (.move (.cst (.g (.bool (.lit false)))))]) (.seq (.seq (.ops [.mk (some 9) none (.move (.tmp 0)), .mk (some 10) none (.call 35 [.tmp 9]), .mk (some 11) none (.len (.tmp 10)), .mk (some 12) none (.move (.cst (.g (.int .i64 (.lit 0)))))]) (.block 0 (.loop (.seq (.ops [.mk (some 13) none (.cmp .lss (.tmp 12) (.tmp 11))]) (.seq (.cond (.tmp 13) .skip (.exit 0)) (.seq (.block 1 (.seq (.ops [.mk (some 14) none (.indexAddr none 2 (.tmp 10) (.tmp 12)), .mk (some 15) none (.load (some 2) (.tmp 14)), .mk (some 8) none (.alloc [.g .nilp, .g .nilp]), .mk none none (.store 2 (.tmp 8) (.tmp 15))]) (.seq (.seq (.ops [.mk (some 16) none (.move (.tmp 1)), .mk (some 17) none (.cmp .geq (.tmp 16) (.cst (.g (.int .i64 (.lit 0))))), .mk (some 18) none (.move (.tmp 17)), .mk (some 19) (some (18, true)) (.move (.tmp 1)), .mk (some 20) (some (18, true)) (.fieldAddr 0 (.tmp 8)), .mk (some 21) (some (18, true)) (.load none (.tmp 20)), .mk (some 22) (some (18, true)) (.call 36 [.tmp 21]), .mk (some 23) (some (18, true)) (.cmp .lss (.tmp 19) (.tmp 22)), .mk (some 24) none (.pick (.tmp 18) (.tmp 23) (.cst (.g (.bool (.lit false)))))]) (.cond (.tmp 24) (.seq (.ops [.mk (some 25) none (.load (some 2) (.tmp 8)), .mk (some 26) none (.move (.tmp 1)), .mk none none (.store 2 (.tmp 4) (.tmp 25)), .mk (some 5) none (.move (.tmp 26)), .mk (some 6) none (.move (.cst (.g (.bool (.lit true)))))]) .ret) .skip)) (.ops [.mk (some 27) none (.move (.tmp 1)), .mk (some 28) none (.fieldAddr 0 (.tmp 8)), .mk (some 29) none (.load none (.tmp 28)), .mk (some 30) none (.call 36 [.tmp 29]), .mk (some 31) none (.bin .sub (.tmp 27) (.tmp 30)), .mk (some 1) none (.move (.tmp 31))])))) (.ops [.mk (some 32) none (.bin .add (.tmp 12) (.cst (.g (.int .i64 (.lit 1))))), .mk (some 12) none (.move (.tmp 32))]))))))) (.seq (.ops [.mk (some 33) none (.build [.g .nilp, .g .nilp] []), .mk none none (.store 2 (.tmp 4) (.tmp 33)), .mk (some 5) none (.move (.cst (.g (.int .i64 (.lit 0))))), .mk (some 6) none (.move (.cst (.g (.bool (.lit false)))))]) .ret)))
theorem c37 : compF Try.prog 37 = some x37 := by kernel_rfl
/-- (*chaplet/pool.Pool).Get -/
def x38 : XF := XF.mk 26 [.cell 4 (some 9), .tmp 5] (.seq (.ops [.mk (some 4) none (.alloc [.g (.int .i64 (.lit 0)), .g (.int .i64 (.lit 0)), .g (.int .i64 (.lit 0)), .g (.int .i64 (.lit 0)), .g (.int .i64 (.lit 0)), .g (.int .i64 (.lit 0)), .g (.int .i64 (.lit 0)), .g (.bool (.lit false)), .g .nil]), .mk (some 5) none (.move (.cst (.g (.bool (.lit false)))))]) (.seq (.seq (.ops [.mk (some 6) none (.move (.tmp 1)), .mk (some 7) none (.cmp .lss (.tmp 6) (.cst (.g (.int .i64 (.lit 0))))), .mk (some 8) none (.move (.tmp 7)), .mk (some 9) (some (8, false)) (.move (.tmp 1)), .mk (some 10) (some (8, false)) (.move (.tmp 0)), .mk (some 11) (some (8, false)) (.nilCheck (.tmp 10)), .mk (some 12) (some (8, false)) (.fieldAddr 0 (.tmp 11)), .mk (some 13) (some (8, false)) (.load none (.tmp 12)), .mk (some 14) (some (8, false)) (.len (.tmp 13)), .mk (some 15) (some (8, false)) (.cmp .geq (.tmp 9) (.tmp 14)), .mk (some 16) none (.pick (.tmp 8) (.cst (.g (.bool (.lit true)))) (.tmp 15))]) (.cond (.tmp 16) (.seq (.ops [.mk (some 17) none (.build [.g (.int .i64 (.lit 0)), .g (.int .i64 (.lit 0)), .g (.int .i64 (.lit 0)), .g (.int .i64 (.lit 0)), .g (.int .i64 (.lit 0)), .g (.int .i64 (.lit 0)), .g (.int .i64 (.lit 0)), .g (.bool (.lit false)), .g .nil] []), .mk none none (.store 9 (.tmp 4) (.tmp 17)), .mk (some 5) none (.move (.cst (.g (.bool (.lit false)))))]) .ret) .skip)) (.seq (.ops [.mk (some 18) none (.move (.tmp 0)), .mk (some 19) none (.nilCheck (.tmp 18)), .mk (some 20) none (.fieldAddr 0 (.tmp 19)), .mk (some 21) none (.load none (.tmp 20)), .mk (some 22) none (.move (.tmp 1)), .mk (some 23) none (.indexAddr none 9 (.tmp 21) (.tmp 22)), .mk (some 24) none (.load (some 9) (.tmp 23)), .mk (some 25) none (.call 54 [.tmp 24]), .mk none none (.store 9 (.tmp 4) (.tmp 25)), .mk (some 5) none (.move (.cst (.g (.bool (.lit true)))))]) .ret)))
theorem c38 : compF Try.prog 38 = some x38 := by kernel_rfl
/-- chaplet/fabric.wire -/
def x39 : XF := XF.mk 25 [.cell 6 (some 9), .tmp 7] (.seq (.ops [.mk (some 3) none (.box (.tmp 0)), .mk (some 6) none (.alloc [.g (.int .i64 (.lit 0)), .g (.int .i64 (.lit 0)), .g (.int .i64 (.lit 0)), .g (.int .i64 (.lit 0)), .g (.int .i64 (.lit 0)), .g (.int .i64 (.lit 0)), .g (.int .i64 (.lit 0)), .g (.bool (.lit false)), .g .nil]), .mk (some 7) none (.move (.cst (.g (.int .i64 (.lit 0)))))]) (.seq (.ops [.mk (some 11) none (.load (some 9) (.tmp 3)), .mk (some 12) none (.call 55 [.tmp 11]), .mk (some 10) none (.move (.tmp 12)), .mk (some 13) none (.extract (.tmp 10) 0), .mk (some 14) none (.extract (.tmp 10) 1), .mk (some 8) none (.move (.tmp 13)), .mk (some 9) none (.move (.tmp 14))]) (.seq (.seq (.ops [.mk (some 15) none (.move (.tmp 9)), .mk (some 16) none (.cmp .neq (.tmp 15) (.cst (.g (.int .i64 (.lit 0)))))]) (.cond (.tmp 16) (.seq (.ops [.mk (some 17) none (.build [.g (.int .i64 (.lit 0)), .g (.int .i64 (.lit 0)), .g (.int .i64 (.lit 0)), .g (.int .i64 (.lit 0)), .g (.int .i64 (.lit 0)), .g (.int .i64 (.lit 0)), .g (.int .i64 (.lit 0)), .g (.bool (.lit false)), .g .nil] []), .mk none none (.store 9 (.tmp 6) (.tmp 17)), .mk (some 7) none (.move (.cst (.g (.int .i64 (.lit 2)))))]) .ret) .skip)) (.seq (.ops [.mk (some 18) none (.move (.tmp 8)), .mk (some 19) none (.move (.tmp 1)), .mk (some 20) none (.move (.tmp 2)), .mk (some 21) none (.call 57 [.tmp 18, .tmp 19, .tmp 20]), .mk (some 22) none (.call 56 [.tmp 21]), .mk (some 23) none (.extract (.tmp 22) 0), .mk (some 24) none (.extract (.tmp 22) 1), .mk none none (.store 9 (.tmp 6) (.tmp 23)), .mk (some 7) none (.move (.tmp 24))]) .ret))))
theorem c39 : compF Try.prog 39 = some x39 := by kernel_rfl
/-- (*chaplet/queue.Queue).Put -/
def x40 : XF := XF.mk 19 [.tmp 4] (.seq (.ops [.mk (some 3) none (.box (.tmp 1)), .mk (some 4) none (.move (.cst (.g (.int .i64 (.lit 0)))))]) (.seq (.seq (.ops [.mk (some 5) none (.move (.tmp 0)), .mk (some 6) none (.call 58 [.tmp 5]), .mk (some 7) none (.cmp .eql (.tmp 6) (.cst (.g (.int .i64 (.lit 0)))))]) (.cond (.tmp 7) (.seq (.ops [.mk (some 4) none (.move (.cst (.g (.int .i64 (.lit 5)))))]) .ret) .skip)) (.seq (.drawn 3 (.op 0 true (.mk (some 8) none (.move (.tmp 0))) (.op 1 true (.mk (some 9) none (.move (.tmp 0))) (.op 2 true (.mk (some 10) none (.nilCheck (.tmp 9))) (.op 3 true (.mk (some 11) none (.fieldAddr 0 (.tmp 10))) (.op 5 true (.mk (some 13) none (.load (some 9) (.tmp 3))) (.alt (.op 4 false (.mk (some 12) none (.load none (.tmp 11))) (.op 6 false (.mk (some 14) none (.call 59 [.tmp 13])) (.op 7 false (.mk (some 15) none (.buildSlice 9 [.g (.int .i64 (.lit 0)), .g (.int .i64 (.lit 0)), .g (.int .i64 (.lit 0)), .g (.int .i64 (.lit 0)), .g (.int .i64 (.lit 0)), .g (.int .i64 (.lit 0)), .g (.int .i64 (.lit 0)), .g (.bool (.lit false)), .g .nil] 1 [(0, .tmp 14)])) (.op 8 false (.mk (some 16) none (.append 9 88 [.g (.int .i64 (.lit 0)), .g (.int .i64 (.lit 0)), .g (.int .i64 (.lit 0)), .g (.int .i64 (.lit 0)), .g (.int .i64 (.lit 0)), .g (.int .i64 (.lit 0)), .g (.int .i64 (.lit 0)), .g (.bool (.lit false)), .g .nil] (.tmp 12) (.tmp 15))) (.op 9 false (.mk (some 17) none (.nilCheck (.tmp 8))) (.op 10 false (.mk (some 18) none (.fieldAddr 0 (.tmp 17))) (.op 11 false (.mk none none (.store 1 (.tmp 18) (.tmp 16))) .nil))))))) (.op 6 false (.mk (some 14) none (.call 59 [.tmp 13])) (.alt (.op 4 false (.mk (some 12) none (.load none (.tmp 11))) (.op 7 false (.mk (some 15) none (.buildSlice 9 [.g (.int .i64 (.lit 0)), .g (.int .i64 (.lit 0)), .g (.int .i64 (.lit 0)), .g (.int .i64 (.lit 0)), .g (.int .i64 (.lit 0)), .g (.int .i64 (.lit 0)), .g (.int .i64 (.lit 0)), .g (.bool (.lit false)), .g .nil] 1 [(0, .tmp 14)])) (.op 8 false (.mk (some 16) none (.append 9 88 [.g (.int .i64 (.lit 0)), .g (.int .i64 (.lit 0)), .g (.int .i64 (.lit 0)), .g (.int .i64 (.lit 0)), .g (.int .i64 (.lit 0)), .g (.int .i64 (.lit 0)), .g (.int .i64 (.lit 0)), .g (.bool (.lit false)), .g .nil] (.tmp 12) (.tmp 15))) (.op 9 false (.mk (some 17) none (.nilCheck (.tmp 8))) (.op 10 false (.mk (some 18) none (.fieldAddr 0 (.tmp 17))) (.op 11 false (.mk none none (.store 1 (.tmp 18) (.tmp 16))) .nil)))))) (.op 7 false (.mk (some 15) none (.buildSlice 9 [.g (.int .i64 (.lit 0)), .g (.int .i64 (.lit 0)), .g (.int .i64 (.lit 0)), .g (.int .i64 (.lit 0)), .g (.int .i64 (.lit 0)), .g (.int .i64 (.lit 0)), .g (.int .i64 (.lit 0)), .g (.bool (.lit false)), .g .nil] 1 [(0, .tmp 14)])) (.op 4 false (.mk (some 12) none (.load none (.tmp 11))) (.op 8 false (.mk (some 16) none (.append 9 88 [.g (.int .i64 (.lit 0)), .g (.int .i64 (.lit 0)), .g (.int .i64 (.lit 0)), .g (.int .i64 (.lit 0)), .g (.int .i64 (.lit 0)), .g (.int .i64 (.lit 0)), .g (.int .i64 (.lit 0)), .g (.bool (.lit false)), .g .nil] (.tmp 12) (.tmp 15))) (.op 9 false (.mk (some 17) none (.nilCheck (.tmp 8))) (.op 10 false (.mk (some 18) none (.fieldAddr 0 (.tmp 17))) (.op 11 false (.mk none none (.store 1 (.tmp 18) (.tmp 16))) .nil))))))))))))))) (.seq (.ops [.mk (some 4) none (.move (.cst (.g (.int .i64 (.lit 0)))))]) .ret))))
theorem c40 : compF Try.prog 40 = some x40 := by kernel_rfl
/-- (*chaplet/pool.Pool).Remove -/
def x41 : XF := XF.mk 28 [.cell 4 (some 9), .tmp 5] (.seq (.ops [.mk (some 4) none (.alloc [.g (.int .i64 (.lit 0)), .g (.int .i64 (.lit 0)), .g (.int .i64 (.lit 0)), .g (.int .i64 (.lit 0)), .g (.int .i64 (.lit 0)), .g (.int .i64 (.lit 0)), .g (.int .i64 (.lit 0)), .g (.bool (.lit false)), .g .nil]), .mk (some 5) none (.move (.cst (.g (.bool (.lit false)))))]) (.seq (.ops [.mk (some 9) none (.move (.tmp 0)), .mk (some 10) none (.move (.tmp 1)), .mk (some 11) none (.call 38 [.tmp 9, .tmp 10]), .mk (some 8) none (.move (.tmp 11)), .mk (some 12) none (.extract (.tmp 8) 0), .mk (some 13) none (.extract (.tmp 8) 1), .mk (some 6) none (.alloc [.g (.int .i64 (.lit 0)), .g (.int .i64 (.lit 0)), .g (.int .i64 (.lit 0)), .g (.int .i64 (.lit 0)), .g (.int .i64 (.lit 0)), .g (.int .i64 (.lit 0)), .g (.int .i64 (.lit 0)), .g (.bool (.lit false)), .g .nil]), .mk none none (.store 9 (.tmp 6) (.tmp 12)), .mk (some 7) none (.move (.tmp 13))]) (.seq (.seq (.ops [.mk (some 14) none (.move (.tmp 7))]) (.cond (.tmp 14) (.ops [.mk (some 15) none (.move (.tmp 0)), .mk (some 16) none (.move (.tmp 0)), .mk (some 17) none (.nilCheck (.tmp 16)), .mk (some 18) none (.fieldAddr 0 (.tmp 17)), .mk (some 19) none (.load none (.tmp 18)), .mk (some 20) none (.move (.tmp 1)), .mk (some 21) none (.move (.tmp 1)), .mk (some 22) none (.bin .add (.tmp 21) (.cst (.g (.int .i64 (.lit 1))))), .mk (some 23) none (.call 60 [.tmp 19, .tmp 20, .tmp 22]), .mk (some 24) none (.nilCheck (.tmp 15)), .mk (some 25) none (.fieldAddr 0 (.tmp 24)), .mk none none (.store 1 (.tmp 25) (.tmp 23))]) .skip)) (.seq (.ops [.mk (some 26) none (.load (some 9) (.tmp 6)), .mk (some 27) none (.move (.tmp 7)), .mk none none (.store 9 (.tmp 4) (.tmp 26)), .mk (some 5) none (.move (.tmp 27))]) .ret))))
theorem c41 : compF Try.prog 41 = some x41 := by kernel_rfl
/-- (*chaplet/fabric.Fabric).take -/
def x42 : XF := XF.mk 26 [.cell 6 (some 9), .tmp 7] (.seq (.ops [.mk (some 6) none (.alloc [.g (.int .i64 (.lit 0)), .g (.int .i64 (.lit 0)), .g (.int .i64 (.lit 0)), .g (.int .i64 (.lit 0)), .g (.int .i64 (.lit 0)), .g (.int .i64 (.lit 0)), .g (.int .i64 (.lit 0)), .g (.bool (.lit false)), .g .nil]), .mk (some 7) none (.move (.cst (.g (.bool (.lit false)))))]) (.seq (.seq (.ops [.mk (some 8) none (.move (.tmp 0)), .mk (some 9) none (.move (.tmp 1)), .mk (some 10) none (.call 31 [.tmp 8, .tmp 9]), .mk (some 11) none (.not (.tmp 10))]) (.cond (.tmp 11) (.seq (.ops [.mk (some 12) none (.build [.g (.int .i64 (.lit 0)), .g (.int .i64 (.lit 0)), .g (.int .i64 (.lit 0)), .g (.int .i64 (.lit 0)), .g (.int .i64 (.lit 0)), .g (.int .i64 (.lit 0)), .g (.int .i64 (.lit 0)), .g (.bool (.lit false)), .g .nil] []), .mk none none (.store 9 (.tmp 6) (.tmp 12)), .mk (some 7) none (.move (.cst (.g (.bool (.lit false)))))]) .ret) .skip)) (.seq (.ops [.mk (some 13) none (.move (.tmp 0)), .mk (some 14) none (.nilCheck (.tmp 13)), .mk (some 15) none (.fieldAddr 0 (.tmp 14)), .mk (some 16) none (.load none (.tmp 15)), .mk (some 17) none (.move (.tmp 1)), .mk (some 18) none (.indexAddr none 4 (.tmp 16) (.tmp 17)), .mk (some 19) none (.load (some 4) (.tmp 18)), .mk (some 20) none (.move (.tmp 2)), .mk (some 21) none (.call 32 [.tmp 19, .tmp 20]), .mk (some 22) none (.field 1 none (.tmp 21)), .mk (some 23) none (.call 61 [.tmp 22]), .mk (some 24) none (.extract (.tmp 23) 0), .mk (some 25) none (.extract (.tmp 23) 1), .mk none none (.store 9 (.tmp 6) (.tmp 24)), .mk (some 7) none (.move (.tmp 25))]) .ret)))
theorem c42 : compF Try.prog 42 = some x42 := by kernel_rfl
/-- (*chaplet/pool.Pool).Room -/
def x43 : XF := XF.mk 13 [.tmp 2] (.seq (.ops [.mk (some 2) none (.move (.cst (.g (.int .i64 (.lit 0)))))]) (.seq (.drawn 1 (.op 0 true (.mk (some 3) none (.move (.tmp 0))) (.op 1 true (.mk (some 4) none (.nilCheck (.tmp 3))) (.op 2 true (.mk (some 5) none (.fieldAddr 1 (.tmp 4))) (.op 3 true (.mk (some 6) none (.load none (.tmp 5))) (.op 4 false (.mk (some 7) none (.move (.tmp 0))) (.op 5 false (.mk (some 8) none (.nilCheck (.tmp 7))) (.op 6 false (.mk (some 9) none (.fieldAddr 0 (.tmp 8))) (.op 7 false (.mk (some 10) none (.load none (.tmp 9))) (.op 8 false (.mk (some 11) none (.len (.tmp 10))) (.op 9 false (.mk (some 12) none (.bin .sub (.tmp 6) (.tmp 11))) (.op 10 false (.mk (some 2) none (.move (.tmp 12))) .nil)))))))))))) .ret))
theorem c43 : compF Try.prog 43 = some x43 := by kernel_rfl
/-- chaplet/chapletkeep.Cut[int] -/
def x44 : XF := XF.mk 12 [.tmp 4] (.seq (.ops [.mk (some 4) none (.move (.cst (.g .nil)))]) (.seq (.ops [.mk (some 5) none (.move (.tmp 0)), .mk (some 6) none (.move (.tmp 0)), .mk (some 7) none (.len (.tmp 6)), .mk (some 8) none (.move (.tmp 1)), .mk (some 9) none (.mnmx false (.tmp 7) [.tmp 8]), .mk (some 10) none (.slice 1 (.tmp 5) none (some (.tmp 9))), .mk (some 11) none (.call 62 [.tmp 10]), .mk (some 4) none (.move (.tmp 11))]) .ret))
theorem c44 : compF Try.prog 44 = some x44 := by kernel_rfl
/-- chaplet/packet.below -/
def x53 : XF := XF.mk 15 [.tmp 6] (.seq (.ops [.mk (some 6) none (.move (.cst (.g (.bool (.lit false)))))]) (.seq (.ops [.mk (some 7) none (.move (.tmp 0)), .mk (some 8) none (.move (.tmp 1)), .mk (some 9) none (.cmp .geq (.tmp 7) (.tmp 8)), .mk (some 10) none (.move (.tmp 9)), .mk (some 11) (some (10, true)) (.move (.tmp 0)), .mk (some 12) (some (10, true)) (.move (.tmp 2)), .mk (some 13) (some (10, true)) (.cmp .lss (.tmp 11) (.tmp 12)), .mk (some 14) none (.pick (.tmp 10) (.tmp 13) (.cst (.g (.bool (.lit false))))), .mk (some 6) none (.move (.tmp 14))]) .ret))
theorem c53 : compF Try.prog 53 = some x53 := by kernel_rfl
/-- chaplet/pool.own -/
def x54 : XF := XF.mk 8 [.cell 2 (some 9)] (.seq (.ops [.mk (some 1) none (.box (.tmp 0)), .mk (some 2) none (.alloc [.g (.int .i64 (.lit 0)), .g (.int .i64 (.lit 0)), .g (.int .i64 (.lit 0)), .g (.int .i64 (.lit 0)), .g (.int .i64 (.lit 0)), .g (.int .i64 (.lit 0)), .g (.int .i64 (.lit 0)), .g (.bool (.lit false)), .g .nil])]) (.seq (.ops [.mk (some 3) none (.fieldAddr 8 (.tmp 1)), .mk (some 4) none (.load none (.tmp 3)), .mk (some 5) none (.call 66 [.tmp 4]), .mk (some 6) none (.fieldAddr 8 (.tmp 1)), .mk none none (.store 1 (.tmp 6) (.tmp 5))]) (.seq (.ops [.mk (some 7) none (.load (some 9) (.tmp 1)), .mk none none (.store 9 (.tmp 2) (.tmp 7))]) .ret)))
theorem c54 : compF Try.prog 54 = some x54 := by kernel_rfl
/-- chaplet/packet.Pack -/
def x55 : XF := XF.mk 61 [.tmp 2, .tmp 3] (.seq (.ops [.mk (some 1) none (.box (.tmp 0)), .mk (some 2) none (.move (.cst (.g .nil))), .mk (some 3) none (.move (.cst (.g (.int .i64 (.lit 0)))))]) (.seq (.seq (.ops [.mk (some 8) none (.load (some 9) (.tmp 1)), .mk (some 9) none (.call 30 [.tmp 8]), .mk (some 4) none (.move (.tmp 9))]) (.seq (.ops [.mk (some 10) none (.move (.tmp 4)), .mk (some 11) none (.cmp .neq (.tmp 10) (.cst (.g (.int .i64 (.lit 0)))))]) (.cond (.tmp 11) (.seq (.ops [.mk (some 12) none (.move (.tmp 4)), .mk (some 2) none (.move (.cst (.g .nil))), .mk (some 3) none (.move (.tmp 12))]) .ret) .skip))) (.seq (.drawn 4 (.op 0 true (.mk (some 13) none (.fieldAddr 0 (.tmp 1))) (.op 1 true (.mk (some 14) none (.load none (.tmp 13))) (.op 2 true (.mk (some 15) none (.conv .u8 (.tmp 14))) (.op 3 true (.mk (some 16) none (.fieldAddr 1 (.tmp 1))) (.op 4 true (.mk (some 17) none (.load none (.tmp 16))) (.op 5 true (.mk (some 18) none (.conv .u8 (.tmp 17))) (.op 6 true (.mk (some 19) none (.fieldAddr 2 (.tmp 1))) (.op 7 true (.mk (some 20) none (.load none (.tmp 19))) (.op 8 true (.mk (some 21) none (.conv .u8 (.tmp 20))) (.op 9 true (.mk (some 22) none (.fieldAddr 3 (.tmp 1))) (.op 10 true (.mk (some 23) none (.load none (.tmp 22))) (.op 11 true (.mk (some 24) none (.shift .shr (.tmp 23) (.cst (.g (.int .u64 (.lit 8)))))) (.op 12 true (.mk (some 25) none (.conv .u8 (.tmp 24))) (.op 13 true (.mk (some 26) none (.fieldAddr 3 (.tmp 1))) (.op 14 true (.mk (some 27) none (.load none (.tmp 26))) (.op 15 true (.mk (some 28) none (.conv .u8 (.tmp 27))) (.op 16 true (.mk (some 29) none (.fieldAddr 4 (.tmp 1))) (.op 17 true (.mk (some 30) none (.load none (.tmp 29))) (.op 18 true (.mk (some 31) none (.conv .u8 (.tmp 30))) (.op 19 true (.mk (some 32) none (.fieldAddr 5 (.tmp 1))) (.op 20 true (.mk (some 33) none (.load none (.tmp 32))) (.op 21 true (.mk (some 34) none (.bin .add (.tmp 33) (.cst (.g (.int .i64 (.lit 1)))))) (.op 22 true (.mk (some 35) none (.conv .u8 (.tmp 34))) (.op 23 true (.mk (some 36) none (.fieldAddr 6 (.tmp 1))) (.op 24 true (.mk (some 37) none (.load none (.tmp 36))) (.op 25 true (.mk (some 38) none (.conv .u8 (.tmp 37))) (.op 26 true (.mk (some 39) none (.fieldAddr 7 (.tmp 1))) (.op 27 true (.mk (some 40) none (.load none (.tmp 39))) (.op 29 true (.mk (some 42) none (.fieldAddr 8 (.tmp 1))) (.op 30 true (.mk (some 43) none (.load none (.tmp 42))) (.op 31 true (.mk (some 44) none (.len (.tmp 43))) (.op 32 true (.mk (some 45) none (.conv .u8 (.tmp 44))) (.op 28 false (.mk (some 41) none (.call 67 [.tmp 40])) (.op 33 false (.mk (some 46) none (.buildSlice 1 [.g (.int .u8 (.lit 0))] 10 [(0, .tmp 15), (1, .tmp 18), (2, .tmp 21), (3, .tmp 25), (4, .tmp 28), (5, .tmp 31), (6, .tmp 35), (7, .tmp 38), (8, .tmp 41), (9, .tmp 45)])) (.op 34 false (.mk (some 5) none (.move (.tmp 46))) .nil)))))))))))))))))))))))))))))))))))) (.seq (.seq (.ops [.mk (some 47) none (.fieldAddr 8 (.tmp 1)), .mk (some 48) none (.load none (.tmp 47)), .mk (some 49) none (.len (.tmp 48)), .mk (some 50) none (.move (.cst (.g (.int .i64 (.lit 0)))))]) (.block 0 (.loop (.seq (.ops [.mk (some 51) none (.cmp .lss (.tmp 50) (.tmp 49))]) (.seq (.cond (.tmp 51) .skip (.exit 0)) (.seq (.block 1 (.seq (.ops [.mk (some 52) none (.indexAddr none 1 (.tmp 48) (.tmp 50)), .mk (some 53) none (.load none (.tmp 52)), .mk (some 7) none (.move (.tmp 53))]) (.ops [.mk (some 54) none (.move (.tmp 5)), .mk (some 55) none (.move (.tmp 7)), .mk (some 56) none (.call 68 [.tmp 55]), .mk (some 57) none (.append 1 1 [.g (.int .u8 (.lit 0))] (.tmp 54) (.tmp 56)), .mk (some 5) none (.move (.tmp 57))]))) (.ops [.mk (some 58) none (.bin .add (.tmp 50) (.cst (.g (.int .i64 (.lit 1))))), .mk (some 50) none (.move (.tmp 58))]))))))) (.seq (.ops [.mk (some 59) none (.move (.tmp 5)), .mk (some 60) none (.call 69 [.tmp 59]), .mk (some 2) none (.move (.tmp 60)), .mk (some 3) none (.move (.cst (.g (.int .i64 (.lit 0)))))]) .ret)))))
theorem c55 : compF Try.prog 55 = some x55 := by kernel_rfl
/-- The body of the range over a function in chaplet/packet.Unpack. -/
def x56b : X := .block 1 (.drawn 7 (.op 0 true (.mk (some 78) none (.fieldAddr 8 (.tmp 6))) (.op 2 true (.mk (some 80) none (.move (.tmp 7))) (.alt (.op 1 false (.mk (some 79) none (.load none (.tmp 78))) (.op 3 false (.mk (some 81) none (.call 72 [.tmp 80])) (.op 4 false (.mk (some 82) none (.buildSlice 1 [.g (.int .i64 (.lit 0))] 1 [(0, .tmp 81)])) (.op 5 false (.mk (some 83) none (.append 1 8 [.g (.int .i64 (.lit 0))] (.tmp 79) (.tmp 82))) (.op 6 false (.mk (some 84) none (.fieldAddr 8 (.tmp 6))) (.op 7 false (.mk none none (.store 1 (.tmp 84) (.tmp 83))) .nil)))))) (.op 3 false (.mk (some 81) none (.call 72 [.tmp 80])) (.alt (.op 1 false (.mk (some 79) none (.load none (.tmp 78))) (.op 4 false (.mk (some 82) none (.buildSlice 1 [.g (.int .i64 (.lit 0))] 1 [(0, .tmp 81)])) (.op 5 false (.mk (some 83) none (.append 1 8 [.g (.int .i64 (.lit 0))] (.tmp 79) (.tmp 82))) (.op 6 false (.mk (some 84) none (.fieldAddr 8 (.tmp 6))) (.op 7 false (.mk none none (.store 1 (.tmp 84) (.tmp 83))) .nil))))) (.op 4 false (.mk (some 82) none (.buildSlice 1 [.g (.int .i64 (.lit 0))] 1 [(0, .tmp 81)])) (.op 1 false (.mk (some 79) none (.load none (.tmp 78))) (.op 5 false (.mk (some 83) none (.append 1 8 [.g (.int .i64 (.lit 0))] (.tmp 79) (.tmp 82))) (.op 6 false (.mk (some 84) none (.fieldAddr 8 (.tmp 6))) (.op 7 false (.mk none none (.store 1 (.tmp 84) (.tmp 83))) .nil)))))))))))
theorem c56b : comp Try.prog [] 1000 (rfBody (rfOf Try.prog 56)) = some x56b := by kernel_rfl
/-- chaplet/packet.Unpack -/
def x56 (rf : Code) : XF := XF.mk 100 [.cell 2 (some 9), .tmp 3] (.seq (.ops [.mk (some 2) none (.alloc [.g (.int .i64 (.lit 0)), .g (.int .i64 (.lit 0)), .g (.int .i64 (.lit 0)), .g (.int .i64 (.lit 0)), .g (.int .i64 (.lit 0)), .g (.int .i64 (.lit 0)), .g (.int .i64 (.lit 0)), .g (.bool (.lit false)), .g .nil]), .mk (some 3) none (.move (.cst (.g (.int .i64 (.lit 0)))))]) (.seq (.ops [.mk (some 11) none (.move (.tmp 0)), .mk (some 12) none (.call 70 [.tmp 11]), .mk (some 10) none (.move (.tmp 12)), .mk (some 13) none (.extract (.tmp 10) 0), .mk (some 14) none (.extract (.tmp 10) 1), .mk (some 4) none (.move (.tmp 13)), .mk (some 5) none (.move (.tmp 14))]) (.seq (.seq (.ops [.mk (some 15) none (.move (.tmp 5)), .mk (some 16) none (.not (.tmp 15)), .mk (some 17) none (.move (.tmp 16)), .mk (some 18) (some (17, false)) (.move (.tmp 4)), .mk (some 19) (some (17, false)) (.len (.tmp 18)), .mk (some 20) (some (17, false)) (.cmp .lss (.tmp 19) (.cst (.g (.int .i64 (.lit 10))))), .mk (some 21) none (.pick (.tmp 17) (.cst (.g (.bool (.lit true)))) (.tmp 20)), .mk (some 22) none (.move (.tmp 21)), .mk (some 23) (some (22, false)) (.move (.tmp 4)), .mk (some 24) (some (22, false)) (.len (.tmp 23)), .mk (some 25) (some (22, false)) (.move (.tmp 4)), .mk (some 26) (some (22, false)) (.indexAddr none 1 (.tmp 25) (.cst (.g (.int .i64 (.lit 9))))), .mk (some 27) (some (22, false)) (.load none (.tmp 26)), .mk (some 28) (some (22, false)) (.conv .i64 (.tmp 27)), .mk (some 29) (some (22, false)) (.bin .mul (.cst (.g (.int .i64 (.lit 8)))) (.tmp 28)), .mk (some 30) (some (22, false)) (.bin .add (.cst (.g (.int .i64 (.lit 10)))) (.tmp 29)), .mk (some 31) (some (22, false)) (.cmp .neq (.tmp 24) (.tmp 30)), .mk (some 32) none (.pick (.tmp 22) (.cst (.g (.bool (.lit true)))) (.tmp 31))]) (.cond (.tmp 32) (.seq (.ops [.mk (some 33) none (.build [.g (.int .i64 (.lit 0)), .g (.int .i64 (.lit 0)), .g (.int .i64 (.lit 0)), .g (.int .i64 (.lit 0)), .g (.int .i64 (.lit 0)), .g (.int .i64 (.lit 0)), .g (.int .i64 (.lit 0)), .g (.bool (.lit false)), .g .nil] []), .mk none none (.store 9 (.tmp 2) (.tmp 33)), .mk (some 3) none (.move (.cst (.g (.int .i64 (.lit 2)))))]) .ret) .skip)) (.seq (.drawn 4 (.op 0 true (.mk (some 34) none (.move (.tmp 4))) (.op 1 true (.mk (some 35) none (.indexAddr none 1 (.tmp 34) (.cst (.g (.int .i64 (.lit 0)))))) (.op 2 true (.mk (some 36) none (.load none (.tmp 35))) (.op 3 true (.mk (some 37) none (.conv .i64 (.tmp 36))) (.op 4 true (.mk (some 38) none (.move (.tmp 4))) (.op 5 true (.mk (some 39) none (.indexAddr none 1 (.tmp 38) (.cst (.g (.int .i64 (.lit 1)))))) (.op 6 true (.mk (some 40) none (.load none (.tmp 39))) (.op 7 true (.mk (some 41) none (.conv .i64 (.tmp 40))) (.op 8 true (.mk (some 42) none (.move (.tmp 4))) (.op 9 true (.mk (some 43) none (.indexAddr none 1 (.tmp 42) (.cst (.g (.int .i64 (.lit 2)))))) (.op 10 true (.mk (some 44) none (.load none (.tmp 43))) (.op 11 true (.mk (some 45) none (.conv .i64 (.tmp 44))) (.op 12 true (.mk (some 46) none (.move (.tmp 4))) (.op 13 true (.mk (some 47) none (.indexAddr none 1 (.tmp 46) (.cst (.g (.int .i64 (.lit 3)))))) (.op 14 true (.mk (some 48) none (.load none (.tmp 47))) (.op 15 true (.mk (some 49) none (.conv .i64 (.tmp 48))) (.op 16 true (.mk (some 50) none (.shift .shl (.tmp 49) (.cst (.g (.int .u64 (.lit 8)))))) (.op 17 true (.mk (some 51) none (.move (.tmp 4))) (.op 18 true (.mk (some 52) none (.indexAddr none 1 (.tmp 51) (.cst (.g (.int .i64 (.lit 4)))))) (.op 19 true (.mk (some 53) none (.load none (.tmp 52))) (.op 20 true (.mk (some 54) none (.conv .i64 (.tmp 53))) (.op 21 true (.mk (some 55) none (.bin .or (.tmp 50) (.tmp 54))) (.op 22 true (.mk (some 56) none (.move (.tmp 4))) (.op 23 true (.mk (some 57) none (.indexAddr none 1 (.tmp 56) (.cst (.g (.int .i64 (.lit 5)))))) (.op 24 true (.mk (some 58) none (.load none (.tmp 57))) (.op 25 true (.mk (some 59) none (.conv .i64 (.tmp 58))) (.op 26 true (.mk (some 60) none (.move (.tmp 4))) (.op 27 true (.mk (some 61) none (.indexAddr none 1 (.tmp 60) (.cst (.g (.int .i64 (.lit 6)))))) (.op 28 true (.mk (some 62) none (.load none (.tmp 61))) (.op 29 true (.mk (some 63) none (.conv .i64 (.tmp 62))) (.op 30 true (.mk (some 64) none (.bin .sub (.tmp 63) (.cst (.g (.int .i64 (.lit 1)))))) (.op 31 true (.mk (some 65) none (.move (.tmp 4))) (.op 32 true (.mk (some 66) none (.indexAddr none 1 (.tmp 65) (.cst (.g (.int .i64 (.lit 7)))))) (.op 33 true (.mk (some 67) none (.load none (.tmp 66))) (.op 34 true (.mk (some 68) none (.conv .i64 (.tmp 67))) (.op 35 true (.mk (some 69) none (.move (.tmp 4))) (.op 36 true (.mk (some 70) none (.indexAddr none 1 (.tmp 69) (.cst (.g (.int .i64 (.lit 8)))))) (.op 37 true (.mk (some 71) none (.load none (.tmp 70))) (.op 38 true (.mk (some 72) none (.cmp .eql (.tmp 71) (.cst (.g (.int .u8 (.lit (Int.ofNat 1))))))) (.op 39 true (.mk (some 73) none (.build [.g (.int .i64 (.lit 0)), .g (.int .i64 (.lit 0)), .g (.int .i64 (.lit 0)), .g (.int .i64 (.lit 0)), .g (.int .i64 (.lit 0)), .g (.int .i64 (.lit 0)), .g (.int .i64 (.lit 0)), .g (.bool (.lit false)), .g .nil] [(0, 1, .tmp 37), (1, 1, .tmp 41), (2, 1, .tmp 45), (3, 1, .tmp 55), (4, 1, .tmp 59), (5, 1, .tmp 64), (6, 1, .tmp 68), (7, 1, .tmp 72)])) (.op 40 false (.mk (some 6) none (.alloc [.g (.int .i64 (.lit (Int.ofNat 0))), .g (.int .i64 (.lit (Int.ofNat 0))), .g (.int .i64 (.lit (Int.ofNat 0))), .g (.int .i64 (.lit (Int.ofNat 0))), .g (.int .i64 (.lit (Int.ofNat 0))), .g (.int .i64 (.lit (Int.ofNat 0))), .g (.int .i64 (.lit (Int.ofNat 0))), .g (.bool (.lit false)), .g .nil])) (.op 41 false (.mk none none (.store 9 (.tmp 6) (.tmp 73))) .nil))))))))))))))))))))))))))))))))))))))))))) (.seq (.seq (.ops [.mk (some 74) none (.move (.tmp 4)), .mk (some 75) none (.slice 1 (.tmp 74) (some (.cst (.g (.int .i64 (.lit 10))))) none), .mk (some 76) none (.call 71 [.tmp 75, .cst (.g (.int .i64 (.lit 8)))])]) (.block 0 (.rfun rf))) (.seq (.ops [.mk (some 86) none (.load (some 9) (.tmp 6)), .mk (some 87) none (.call 55 [.tmp 86]), .mk (some 85) none (.move (.tmp 87)), .mk (some 88) none (.extract (.tmp 85) 0), .mk (some 89) none (.extract (.tmp 85) 1), .mk (some 8) none (.move (.tmp 88)), .mk (some 9) none (.move (.tmp 89))]) (.seq (.seq (.ops [.mk (some 90) none (.move (.tmp 9)), .mk (some 91) none (.cmp .neq (.tmp 90) (.cst (.g (.int .i64 (.lit 0))))), .mk (some 92) none (.move (.tmp 91)), .mk (some 93) (some (92, false)) (.move (.tmp 8)), .mk (some 94) (some (92, false)) (.move (.tmp 0)), .mk (some 95) (some (92, false)) (.call 73 [.tmp 93, .tmp 94]), .mk (some 96) (some (92, false)) (.not (.tmp 95)), .mk (some 97) none (.pick (.tmp 92) (.cst (.g (.bool (.lit true)))) (.tmp 96))]) (.cond (.tmp 97) (.seq (.ops [.mk (some 98) none (.build [.g (.int .i64 (.lit 0)), .g (.int .i64 (.lit 0)), .g (.int .i64 (.lit 0)), .g (.int .i64 (.lit 0)), .g (.int .i64 (.lit 0)), .g (.int .i64 (.lit 0)), .g (.int .i64 (.lit 0)), .g (.bool (.lit false)), .g .nil] []), .mk none none (.store 9 (.tmp 2) (.tmp 98)), .mk (some 3) none (.move (.cst (.g (.int .i64 (.lit 2)))))]) .ret) .skip)) (.seq (.ops [.mk (some 99) none (.load (some 9) (.tmp 6)), .mk none none (.store 9 (.tmp 2) (.tmp 99)), .mk (some 3) none (.move (.cst (.g (.int .i64 (.lit 0)))))]) .ret))))))))
theorem c56 (rf : Code) (h : rf = rfOf Try.prog 56) : compF Try.prog 56 = some (x56 rf) := by subst h; kernel_rfl
/-- chaplet/crc.Spoil -/
def x57 : XF := XF.mk 45 [.tmp 6] (.seq (.ops [.mk (some 6) none (.move (.cst (.g .nil)))]) (.seq (.ops [.mk (some 10) none (.move (.tmp 0)), .mk (some 11) none (.call 74 [.tmp 10]), .mk (some 7) none (.move (.tmp 11))]) (.seq (.seq (.ops [.mk (some 12) none (.move (.tmp 7)), .mk (some 13) none (.len (.tmp 12)), .mk (some 14) none (.move (.cst (.g (.int .i64 (.lit 0)))))]) (.block 0 (.loop (.seq (.ops [.mk (some 15) none (.cmp .lss (.tmp 14) (.tmp 13))]) (.seq (.cond (.tmp 15) .skip (.exit 0)) (.seq (.block 1 (.seq (.ops [.mk (some 16) none (.move (.tmp 14)), .mk (some 8) none (.move (.tmp 16))]) (.seq (.ops [.mk (some 17) none (.move (.tmp 8)), .mk (some 18) none (.bin .mul (.cst (.g (.int .i64 (.lit 8)))) (.tmp 17)), .mk (some 19) none (.move (.tmp 1)), .mk (some 20) none (.bin .sub (.tmp 18) (.tmp 19)), .mk (some 9) none (.move (.tmp 20))]) (.seq (.seq (.ops [.mk (some 21) none (.move (.tmp 9)), .mk (some 22) none (.cmp .leq (.tmp 21) (.cst (.g (.int .i64 (.lit (-8)))))), .mk (some 23) none (.move (.tmp 22)), .mk (some 24) (some (23, false)) (.move (.tmp 9)), .mk (some 25) (some (23, false)) (.cmp .geq (.tmp 24) (.cst (.g (.int .i64 (.lit 16))))), .mk (some 26) none (.pick (.tmp 23) (.cst (.g (.bool (.lit true)))) (.tmp 25))]) (.cond (.tmp 26) (.exit 1) .skip)) (.drawn 7 (.op 0 true (.mk (some 27) none (.move (.tmp 7))) (.op 1 true (.mk (some 28) none (.move (.tmp 8))) (.op 2 true (.mk (some 29) none (.move (.tmp 7))) (.op 3 true (.mk (some 30) none (.move (.tmp 8))) (.op 4 true (.mk (some 31) none (.indexAddr none 1 (.tmp 29) (.tmp 30))) (.op 6 true (.mk (some 33) none (.move (.tmp 2))) (.op 7 true (.mk (some 34) none (.conv .u32 (.tmp 33))) (.op 8 true (.mk (some 35) none (.shift .shl (.tmp 34) (.cst (.g (.int .u64 (.lit 8)))))) (.op 9 true (.mk (some 36) none (.move (.tmp 9))) (.op 10 true (.mk (some 37) none (.bin .add (.tmp 36) (.cst (.g (.int .i64 (.lit 8)))))) (.op 11 true (.mk (some 38) none (.shift .shl (.tmp 35) (.tmp 37))) (.op 12 true (.mk (some 39) none (.shift .shr (.tmp 38) (.cst (.g (.int .u64 (.lit 24)))))) (.op 13 true (.mk (some 40) none (.conv .u8 (.tmp 39))) (.op 5 false (.mk (some 32) none (.load none (.tmp 31))) (.op 14 false (.mk (some 41) none (.bin .xor (.tmp 32) (.tmp 40))) (.op 15 false (.mk (some 42) none (.indexAddr none 1 (.tmp 27) (.tmp 28))) (.op 16 false (.mk none none (.store 1 (.tmp 42) (.tmp 41))) .nil)))))))))))))))))))))) (.ops [.mk (some 43) none (.bin .add (.tmp 14) (.cst (.g (.int .i64 (.lit 1))))), .mk (some 14) none (.move (.tmp 43))]))))))) (.seq (.ops [.mk (some 44) none (.move (.tmp 7)), .mk (some 6) none (.move (.tmp 44))]) .ret))))
theorem c57 : compF Try.prog 57 = some x57 := by kernel_rfl
/-- (*chaplet/queue.Queue).Room -/
def x58 : XF := XF.mk 13 [.tmp 2] (.seq (.ops [.mk (some 2) none (.move (.cst (.g (.int .i64 (.lit 0)))))]) (.seq (.drawn 1 (.op 0 true (.mk (some 3) none (.move (.tmp 0))) (.op 1 true (.mk (some 4) none (.nilCheck (.tmp 3))) (.op 2 true (.mk (some 5) none (.fieldAddr 1 (.tmp 4))) (.op 3 true (.mk (some 6) none (.load none (.tmp 5))) (.op 4 false (.mk (some 7) none (.move (.tmp 0))) (.op 5 false (.mk (some 8) none (.nilCheck (.tmp 7))) (.op 6 false (.mk (some 9) none (.fieldAddr 0 (.tmp 8))) (.op 7 false (.mk (some 10) none (.load none (.tmp 9))) (.op 8 false (.mk (some 11) none (.len (.tmp 10))) (.op 9 false (.mk (some 12) none (.bin .sub (.tmp 6) (.tmp 11))) (.op 10 false (.mk (some 2) none (.move (.tmp 12))) .nil)))))))))))) .ret))
theorem c58 : compF Try.prog 58 = some x58 := by kernel_rfl
/-- chaplet/queue.own -/
def x59 : XF := XF.mk 8 [.cell 2 (some 9)] (.seq (.ops [.mk (some 1) none (.box (.tmp 0)), .mk (some 2) none (.alloc [.g (.int .i64 (.lit 0)), .g (.int .i64 (.lit 0)), .g (.int .i64 (.lit 0)), .g (.int .i64 (.lit 0)), .g (.int .i64 (.lit 0)), .g (.int .i64 (.lit 0)), .g (.int .i64 (.lit 0)), .g (.bool (.lit false)), .g .nil])]) (.seq (.ops [.mk (some 3) none (.fieldAddr 8 (.tmp 1)), .mk (some 4) none (.load none (.tmp 3)), .mk (some 5) none (.call 66 [.tmp 4]), .mk (some 6) none (.fieldAddr 8 (.tmp 1)), .mk none none (.store 1 (.tmp 6) (.tmp 5))]) (.seq (.ops [.mk (some 7) none (.load (some 9) (.tmp 1)), .mk none none (.store 9 (.tmp 2) (.tmp 7))]) .ret)))
theorem c59 : compF Try.prog 59 = some x59 := by kernel_rfl
/-- (*chaplet/queue.Queue).Take -/
def x61 : XF := XF.mk 22 [.cell 2 (some 9), .tmp 3] (.seq (.ops [.mk (some 2) none (.alloc [.g (.int .i64 (.lit 0)), .g (.int .i64 (.lit 0)), .g (.int .i64 (.lit 0)), .g (.int .i64 (.lit 0)), .g (.int .i64 (.lit 0)), .g (.int .i64 (.lit 0)), .g (.int .i64 (.lit 0)), .g (.bool (.lit false)), .g .nil]), .mk (some 3) none (.move (.cst (.g (.bool (.lit false)))))]) (.seq (.ops [.mk (some 7) none (.move (.tmp 0)), .mk (some 8) none (.call 75 [.tmp 7]), .mk (some 6) none (.move (.tmp 8)), .mk (some 9) none (.extract (.tmp 6) 0), .mk (some 10) none (.extract (.tmp 6) 1), .mk (some 4) none (.alloc [.g (.int .i64 (.lit 0)), .g (.int .i64 (.lit 0)), .g (.int .i64 (.lit 0)), .g (.int .i64 (.lit 0)), .g (.int .i64 (.lit 0)), .g (.int .i64 (.lit 0)), .g (.int .i64 (.lit 0)), .g (.bool (.lit false)), .g .nil]), .mk none none (.store 9 (.tmp 4) (.tmp 9)), .mk (some 5) none (.move (.tmp 10))]) (.seq (.seq (.ops [.mk (some 11) none (.move (.tmp 5))]) (.cond (.tmp 11) (.ops [.mk (some 12) none (.move (.tmp 0)), .mk (some 13) none (.move (.tmp 0)), .mk (some 14) none (.nilCheck (.tmp 13)), .mk (some 15) none (.fieldAddr 0 (.tmp 14)), .mk (some 16) none (.load none (.tmp 15)), .mk (some 17) none (.call 60 [.tmp 16, .cst (.g (.int .i64 (.lit 0))), .cst (.g (.int .i64 (.lit 1)))]), .mk (some 18) none (.nilCheck (.tmp 12)), .mk (some 19) none (.fieldAddr 0 (.tmp 18)), .mk none none (.store 1 (.tmp 19) (.tmp 17))]) .skip)) (.seq (.ops [.mk (some 20) none (.load (some 9) (.tmp 4)), .mk (some 21) none (.move (.tmp 5)), .mk none none (.store 9 (.tmp 2) (.tmp 20)), .mk (some 3) none (.move (.tmp 21))]) .ret))))
theorem c61 : compF Try.prog 61 = some x61 := by kernel_rfl
/-- chaplet/chapletkeep.Copy[int] -/
def x62 : XF := XF.mk 5 [.tmp 2] (.seq (.ops [.mk (some 2) none (.move (.cst (.g .nil)))]) (.seq (.ops [.mk (some 3) none (.move (.tmp 0)), .mk (some 4) none (.append 1 8 [.g (.int .i64 (.lit 0))] (.cst (.g .nil)) (.tmp 3)), .mk (some 2) none (.move (.tmp 4))]) .ret))
theorem c62 : compF Try.prog 62 = some x62 := by kernel_rfl
end Go.Proofs.Ytofdnnjkfpomcaa.E

/- The functions' compact code, as Lean computes it. -/
namespace Go.Proofs.Ytofdnnjkfpomcaa.E
open Go
set_option maxRecDepth 100000

/-- slices.Clone[[]int,int] -/
def x66 : XF := XF.mk 8 [.tmp 2] (.seq (.ops [.mk (some 2) none (.move (.cst (.g .nil)))]) (.seq (.seq (.ops [.mk (some 3) none (.move (.tmp 0)), .mk (some 4) none (.isNil false (.tmp 3))]) (.cond (.tmp 4) (.seq (.ops [.mk (some 2) none (.move (.cst (.g .nil)))]) .ret) .skip)) (.seq (.ops [.mk (some 5) none (.buildSlice 1 [.g (.int .i64 (.lit 0))] 0 []), .mk (some 6) none (.move (.tmp 0)), .mk (some 7) none (.append 1 8 [.g (.int .i64 (.lit 0))] (.tmp 5) (.tmp 6)), .mk (some 2) none (.move (.tmp 7))]) .ret)))
theorem c66 : compF Try.prog 66 = some x66 := by kernel_rfl
/-- chaplet/packet.flag -/
def x67 : XF := XF.mk 4 [.tmp 2] (.seq (.ops [.mk (some 2) none (.move (.cst (.g (.int .u8 (.lit 0)))))]) (.seq (.seq (.ops [.mk (some 3) none (.move (.tmp 0))]) (.cond (.tmp 3) (.seq (.ops [.mk (some 2) none (.move (.cst (.g (.int .u8 (.lit 1)))))]) .ret) .skip)) (.seq (.ops [.mk (some 2) none (.move (.cst (.g (.int .u8 (.lit 0)))))]) .ret)))
theorem c67 : compF Try.prog 67 = some x67 := by kernel_rfl
/-- chaplet/packet.word -/
def x68 : XF := XF.mk 17 [.tmp 2] (.seq (.ops [.mk (some 2) none (.move (.cst (.g .nil)))]) (.seq (.ops [.mk (some 3) none (.move (.cst (.g .nil)))]) (.seq (.seq (.ops [.mk (some 4) none (.move (.cst (.g (.int .i64 (.lit 56)))))]) (.block 0 (.loop (.seq (.seq (.ops [.mk (some 5) none (.move (.tmp 4)), .mk (some 6) none (.cmp .geq (.tmp 5) (.cst (.g (.int .i64 (.lit 0)))))]) (.cond (.tmp 6) .skip (.exit 0))) (.seq (.block 1 (.ops [.mk (some 9) none (.move (.tmp 3)), .mk (some 10) none (.move (.tmp 0)), .mk (some 11) none (.move (.tmp 4)), .mk (some 12) none (.shift .shr (.tmp 10) (.tmp 11)), .mk (some 13) none (.conv .u8 (.tmp 12)), .mk (some 14) none (.buildSlice 1 [.g (.int .u8 (.lit 0))] 1 [(0, .tmp 13)]), .mk (some 15) none (.append 1 1 [.g (.int .u8 (.lit 0))] (.tmp 9) (.tmp 14)), .mk (some 3) none (.move (.tmp 15))])) (.ops [.mk (some 7) none (.move (.tmp 4)), .mk (some 8) none (.bin .sub (.tmp 7) (.cst (.g (.int .i64 (.lit 8))))), .mk (some 4) none (.move (.tmp 8))])))))) (.seq (.ops [.mk (some 16) none (.move (.tmp 3)), .mk (some 2) none (.move (.tmp 16))]) .ret))))
theorem c68 : compF Try.prog 68 = some x68 := by kernel_rfl
/-- chaplet/crc.Seal -/
def x69 : XF := XF.mk 15 [.tmp 2] (.seq (.ops [.mk (some 2) none (.move (.cst (.g .nil)))]) (.seq (.ops [.mk (some 4) none (.move (.tmp 0)), .mk (some 5) none (.call 77 [.tmp 4]), .mk (some 3) none (.move (.tmp 5))]) (.seq (.ops [.mk (some 6) none (.move (.tmp 0)), .mk (some 7) none (.move (.tmp 3)), .mk (some 8) none (.shift .shr (.tmp 7) (.cst (.g (.int .u64 (.lit 8))))), .mk (some 9) none (.conv .u8 (.tmp 8)), .mk (some 10) none (.move (.tmp 3)), .mk (some 11) none (.conv .u8 (.tmp 10)), .mk (some 12) none (.buildSlice 1 [.g (.int .u8 (.lit 0))] 2 [(0, .tmp 9), (1, .tmp 11)]), .mk (some 13) none (.buildSlice 1 [.g .nil] 2 [(0, .tmp 6), (1, .tmp 12)]), .mk (some 14) none (.call 78 [.tmp 13]), .mk (some 2) none (.move (.tmp 14))]) .ret)))
theorem c69 : compF Try.prog 69 = some x69 := by kernel_rfl
/-- chaplet/crc.Open -/
def x70 : XF := XF.mk 23 [.tmp 2, .tmp 3] (.seq (.ops [.mk (some 2) none (.move (.cst (.g .nil))), .mk (some 3) none (.move (.cst (.g (.bool (.lit false)))))]) (.seq (.ops [.mk (some 5) none (.move (.tmp 0)), .mk (some 6) none (.len (.tmp 5)), .mk (some 7) none (.bin .sub (.tmp 6) (.cst (.g (.int .i64 (.lit 2))))), .mk (some 4) none (.move (.tmp 7))]) (.seq (.seq (.ops [.mk (some 8) none (.move (.tmp 4)), .mk (some 9) none (.cmp .lss (.tmp 8) (.cst (.g (.int .i64 (.lit 0))))), .mk (some 10) none (.move (.tmp 9)), .mk (some 11) (some (10, false)) (.move (.tmp 0)), .mk (some 12) (some (10, false)) (.move (.tmp 4)), .mk (some 13) (some (10, false)) (.slice 1 (.tmp 11) none (some (.tmp 12))), .mk (some 14) (some (10, false)) (.call 69 [.tmp 13]), .mk (some 15) (some (10, false)) (.move (.tmp 0)), .mk (some 16) (some (10, false)) (.call 73 [.tmp 14, .tmp 15]), .mk (some 17) (some (10, false)) (.not (.tmp 16)), .mk (some 18) none (.pick (.tmp 10) (.cst (.g (.bool (.lit true)))) (.tmp 17))]) (.cond (.tmp 18) (.seq (.ops [.mk (some 2) none (.move (.cst (.g .nil))), .mk (some 3) none (.move (.cst (.g (.bool (.lit false)))))]) .ret) .skip)) (.seq (.ops [.mk (some 19) none (.move (.tmp 0)), .mk (some 20) none (.move (.tmp 4)), .mk (some 21) none (.slice 1 (.tmp 19) none (some (.tmp 20))), .mk (some 22) none (.call 74 [.tmp 21]), .mk (some 2) none (.move (.tmp 22)), .mk (some 3) none (.move (.cst (.g (.bool (.lit true)))))]) .ret))))
theorem c70 : compF Try.prog 70 = some x70 := by kernel_rfl
/-- slices.Chunk[[]byte,byte] -/
def x71 : XF := XF.mk 9 [.tmp 4] (.seq (.ops [.mk (some 2) none (.box (.tmp 0)), .mk (some 3) none (.box (.tmp 1)), .mk (some 4) none (.move (.cst .any))]) (.seq (.seq (.ops [.mk (some 5) none (.load none (.tmp 3)), .mk (some 6) none (.cmp .lss (.tmp 5) (.cst (.g (.int .i64 (.lit 1)))))]) (.cond (.tmp 6) (.ops [.mk (some 7) none .dead, .mk none none .dead]) .skip)) (.seq (.ops [.mk (some 8) none (.makeFunc 79 [.tmp 2, .tmp 3]), .mk (some 4) none (.move (.tmp 8))]) .ret)))
theorem c71 : compF Try.prog 71 = some x71 := by kernel_rfl
/-- chaplet/packet.number -/
def x72 : XF := XF.mk 20 [.tmp 2] (.seq (.ops [.mk (some 2) none (.move (.cst (.g (.int .i64 (.lit 0)))))]) (.seq (.ops [.mk (some 3) none (.move (.cst (.g (.int .u64 (.lit 0)))))]) (.seq (.seq (.ops [.mk (some 6) none (.move (.tmp 0)), .mk (some 7) none (.len (.tmp 6)), .mk (some 8) none (.move (.cst (.g (.int .i64 (.lit 0)))))]) (.block 0 (.loop (.seq (.ops [.mk (some 9) none (.cmp .lss (.tmp 8) (.tmp 7))]) (.seq (.cond (.tmp 9) .skip (.exit 0)) (.seq (.block 1 (.seq (.ops [.mk (some 10) none (.indexAddr none 1 (.tmp 6) (.tmp 8)), .mk (some 11) none (.load none (.tmp 10)), .mk (some 5) none (.move (.tmp 11))]) (.ops [.mk (some 12) none (.move (.tmp 3)), .mk (some 13) none (.shift .shl (.tmp 12) (.cst (.g (.int .u64 (.lit 8))))), .mk (some 14) none (.move (.tmp 5)), .mk (some 15) none (.conv .u64 (.tmp 14)), .mk (some 16) none (.bin .or (.tmp 13) (.tmp 15)), .mk (some 3) none (.move (.tmp 16))]))) (.ops [.mk (some 17) none (.bin .add (.tmp 8) (.cst (.g (.int .i64 (.lit 1))))), .mk (some 8) none (.move (.tmp 17))]))))))) (.seq (.ops [.mk (some 18) none (.move (.tmp 3)), .mk (some 19) none (.conv .i64 (.tmp 18)), .mk (some 2) none (.move (.tmp 19))]) .ret))))
theorem c72 : compF Try.prog 72 = some x72 := by kernel_rfl
/-- bytes.Equal -/
def x73 : XF := XF.mk 10 [.tmp 4] (.seq (.ops [.mk (some 4) none (.move (.cst (.g (.bool (.lit false)))))]) (.seq (.ops [.mk (some 5) none (.move (.tmp 0)), .mk (some 6) none (.b2s (.tmp 5)), .mk (some 7) none (.move (.tmp 1)), .mk (some 8) none (.b2s (.tmp 7)), .mk (some 9) none (.eq false .str (.tmp 6) (.tmp 8)), .mk (some 4) none (.move (.tmp 9))]) .ret))
theorem c73 : compF Try.prog 73 = some x73 := by kernel_rfl
/-- bytes.Clone -/
def x74 : XF := XF.mk 8 [.tmp 2] (.seq (.ops [.mk (some 2) none (.move (.cst (.g .nil)))]) (.seq (.seq (.ops [.mk (some 3) none (.move (.tmp 0)), .mk (some 4) none (.isNil false (.tmp 3))]) (.cond (.tmp 4) (.seq (.ops [.mk (some 2) none (.move (.cst (.g .nil)))]) .ret) .skip)) (.seq (.ops [.mk (some 5) none (.buildSlice 1 [.g (.int .u8 (.lit 0))] 0 []), .mk (some 6) none (.move (.tmp 0)), .mk (some 7) none (.append 1 1 [.g (.int .u8 (.lit 0))] (.tmp 5) (.tmp 6)), .mk (some 2) none (.move (.tmp 7))]) .ret)))
theorem c74 : compF Try.prog 74 = some x74 := by kernel_rfl
/-- (*chaplet/queue.Queue).Peek -/
def x75 : XF := XF.mk 18 [.cell 2 (some 9), .tmp 3] (.seq (.ops [.mk (some 2) none (.alloc [.g (.int .i64 (.lit 0)), .g (.int .i64 (.lit 0)), .g (.int .i64 (.lit 0)), .g (.int .i64 (.lit 0)), .g (.int .i64 (.lit 0)), .g (.int .i64 (.lit 0)), .g (.int .i64 (.lit 0)), .g (.bool (.lit false)), .g .nil]), .mk (some 3) none (.move (.cst (.g (.bool (.lit false)))))]) (.seq (.seq (.ops [.mk (some 4) none (.move (.tmp 0)), .mk (some 5) none (.nilCheck (.tmp 4)), .mk (some 6) none (.fieldAddr 0 (.tmp 5)), .mk (some 7) none (.load none (.tmp 6)), .mk (some 8) none (.len (.tmp 7)), .mk (some 9) none (.cmp .eql (.tmp 8) (.cst (.g (.int .i64 (.lit 0)))))]) (.cond (.tmp 9) (.seq (.ops [.mk (some 10) none (.build [.g (.int .i64 (.lit 0)), .g (.int .i64 (.lit 0)), .g (.int .i64 (.lit 0)), .g (.int .i64 (.lit 0)), .g (.int .i64 (.lit 0)), .g (.int .i64 (.lit 0)), .g (.int .i64 (.lit 0)), .g (.bool (.lit false)), .g .nil] []), .mk none none (.store 9 (.tmp 2) (.tmp 10)), .mk (some 3) none (.move (.cst (.g (.bool (.lit false)))))]) .ret) .skip)) (.seq (.ops [.mk (some 11) none (.move (.tmp 0)), .mk (some 12) none (.nilCheck (.tmp 11)), .mk (some 13) none (.fieldAddr 0 (.tmp 12)), .mk (some 14) none (.load none (.tmp 13)), .mk (some 15) none (.indexAddr none 9 (.tmp 14) (.cst (.g (.int .i64 (.lit 0))))), .mk (some 16) none (.load (some 9) (.tmp 15)), .mk (some 17) none (.call 59 [.tmp 16]), .mk none none (.store 9 (.tmp 2) (.tmp 17)), .mk (some 3) none (.move (.cst (.g (.bool (.lit true)))))]) .ret)))
theorem c75 : compF Try.prog 75 = some x75 := by kernel_rfl
/-- chaplet/crc.Sum -/
def x77 : XF := XF.mk 30 [.tmp 2] (.seq (.ops [.mk (some 2) none (.move (.cst (.g (.int .u16 (.lit 0)))))]) (.seq (.ops [.mk (some 3) none (.move (.cst (.g (.int .u16 (.lit 65535)))))]) (.seq (.seq (.ops [.mk (some 7) none (.move (.tmp 0)), .mk (some 8) none (.len (.tmp 7)), .mk (some 9) none (.move (.cst (.g (.int .i64 (.lit 0)))))]) (.block 0 (.loop (.seq (.ops [.mk (some 10) none (.cmp .lss (.tmp 9) (.tmp 8))]) (.seq (.cond (.tmp 10) .skip (.exit 0)) (.seq (.block 1 (.seq (.ops [.mk (some 11) none (.indexAddr none 1 (.tmp 7) (.tmp 9)), .mk (some 12) none (.load none (.tmp 11)), .mk (some 5) none (.move (.tmp 12))]) (.seq (.ops [.mk (some 13) none (.move (.tmp 3)), .mk (some 14) none (.move (.tmp 5)), .mk (some 15) none (.conv .u16 (.tmp 14)), .mk (some 16) none (.shift .shl (.tmp 15) (.cst (.g (.int .u64 (.lit 8))))), .mk (some 17) none (.bin .xor (.tmp 13) (.tmp 16)), .mk (some 3) none (.move (.tmp 17))]) (.seq (.ops [.mk (some 18) none (.move (.cst (.g (.int .i64 (.lit 0)))))]) (.block 2 (.loop (.seq (.ops [.mk (some 19) none (.cmp .lss (.tmp 18) (.cst (.g (.int .i64 (.lit 8)))))]) (.seq (.cond (.tmp 19) .skip (.exit 2)) (.seq (.block 3 (.seq (.ops [.mk (some 20) none (.move (.tmp 3)), .mk (some 21) none (.shift .shr (.tmp 20) (.cst (.g (.int .u64 (.lit 15))))), .mk (some 6) none (.move (.tmp 21))]) (.ops [.mk (some 22) none (.move (.tmp 3)), .mk (some 23) none (.shift .shl (.tmp 22) (.cst (.g (.int .u64 (.lit 1))))), .mk (some 24) none (.move (.tmp 6)), .mk (some 25) none (.bin .mul (.tmp 24) (.cst (.g (.int .u16 (.lit 4129))))), .mk (some 26) none (.bin .xor (.tmp 23) (.tmp 25)), .mk (some 3) none (.move (.tmp 26))]))) (.ops [.mk (some 27) none (.bin .add (.tmp 18) (.cst (.g (.int .i64 (.lit 1))))), .mk (some 18) none (.move (.tmp 27))])))))))))) (.ops [.mk (some 28) none (.bin .add (.tmp 9) (.cst (.g (.int .i64 (.lit 1))))), .mk (some 9) none (.move (.tmp 28))]))))))) (.seq (.ops [.mk (some 29) none (.move (.tmp 3)), .mk (some 2) none (.move (.tmp 29))]) .ret))))
theorem c77 : compF Try.prog 77 = some x77 := by kernel_rfl
/-- slices.Concat[[]byte,byte] -/
def x78 : XF := XF.mk 36 [.tmp 2] (.seq (.ops [.mk (some 2) none (.move (.cst (.g .nil)))]) (.seq (.ops [.mk (some 3) none (.move (.cst (.g (.int .i64 (.lit 0)))))]) (.seq (.seq (.ops [.mk (some 9) none (.move (.tmp 0)), .mk (some 10) none (.len (.tmp 9)), .mk (some 11) none (.move (.cst (.g (.int .i64 (.lit 0)))))]) (.block 0 (.loop (.seq (.ops [.mk (some 12) none (.cmp .lss (.tmp 11) (.tmp 10))]) (.seq (.cond (.tmp 12) .skip (.exit 0)) (.seq (.block 1 (.seq (.ops [.mk (some 13) none (.indexAddr none 1 (.tmp 9) (.tmp 11)), .mk (some 14) none (.load none (.tmp 13)), .mk (some 5) none (.move (.tmp 14))]) (.seq (.ops [.mk (some 15) none (.move (.tmp 3)), .mk (some 16) none (.move (.tmp 5)), .mk (some 17) none (.len (.tmp 16)), .mk (some 18) none (.bin .add (.tmp 15) (.tmp 17)), .mk (some 3) none (.move (.tmp 18))]) (.seq (.ops [.mk (some 19) none (.move (.tmp 3)), .mk (some 20) none (.cmp .lss (.tmp 19) (.cst (.g (.int .i64 (.lit 0)))))]) (.cond (.tmp 20) (.ops [.mk (some 21) none .dead, .mk none none .dead]) .skip))))) (.ops [.mk (some 22) none (.bin .add (.tmp 11) (.cst (.g (.int .i64 (.lit 1))))), .mk (some 11) none (.move (.tmp 22))]))))))) (.seq (.ops [.mk (some 23) none (.move (.tmp 3)), .mk (some 24) none (.call 80 [.cst (.g .nil), .tmp 23]), .mk (some 6) none (.move (.tmp 24))]) (.seq (.seq (.ops [.mk (some 25) none (.move (.tmp 0)), .mk (some 26) none (.len (.tmp 25)), .mk (some 27) none (.move (.cst (.g (.int .i64 (.lit 0)))))]) (.block 2 (.loop (.seq (.ops [.mk (some 28) none (.cmp .lss (.tmp 27) (.tmp 26))]) (.seq (.cond (.tmp 28) .skip (.exit 2)) (.seq (.block 3 (.seq (.ops [.mk (some 29) none (.indexAddr none 1 (.tmp 25) (.tmp 27)), .mk (some 30) none (.load none (.tmp 29)), .mk (some 8) none (.move (.tmp 30))]) (.ops [.mk (some 31) none (.move (.tmp 6)), .mk (some 32) none (.move (.tmp 8)), .mk (some 33) none (.append 1 1 [.g (.int .u8 (.lit 0))] (.tmp 31) (.tmp 32)), .mk (some 6) none (.move (.tmp 33))]))) (.ops [.mk (some 34) none (.bin .add (.tmp 27) (.cst (.g (.int .i64 (.lit 1))))), .mk (some 27) none (.move (.tmp 34))]))))))) (.seq (.ops [.mk (some 35) none (.move (.tmp 6)), .mk (some 2) none (.move (.tmp 35))]) .ret))))))
theorem c78 : compF Try.prog 78 = some x78 := by kernel_rfl
/-- slices.Grow[[]byte,byte] -/
def x80 : XF := XF.mk 27 [.tmp 4] (.seq (.ops [.mk (some 4) none (.move (.cst (.g .nil)))]) (.seq (.seq (.ops [.mk (some 5) none (.move (.tmp 1)), .mk (some 6) none (.cmp .lss (.tmp 5) (.cst (.g (.int .i64 (.lit 0)))))]) (.cond (.tmp 6) (.ops [.mk (some 7) none .dead, .mk none none .dead]) .skip)) (.seq (.seq (.ops [.mk (some 8) none (.move (.tmp 1)), .mk (some 9) none (.move (.tmp 0)), .mk (some 10) none (.cap (.tmp 9)), .mk (some 11) none (.move (.tmp 0)), .mk (some 12) none (.len (.tmp 11)), .mk (some 13) none (.bin .sub (.tmp 10) (.tmp 12)), .mk (some 14) none (.bin .sub (.tmp 8) (.tmp 13)), .mk (some 1) none (.move (.tmp 14))]) (.seq (.ops [.mk (some 15) none (.move (.tmp 1)), .mk (some 16) none (.cmp .gtr (.tmp 15) (.cst (.g (.int .i64 (.lit 0)))))]) (.cond (.tmp 16) (.ops [.mk (some 17) none (.move (.tmp 0)), .mk (some 18) none (.move (.tmp 0)), .mk (some 19) none (.cap (.tmp 18)), .mk (some 20) none (.slice 1 (.tmp 17) none (some (.tmp 19))), .mk (some 21) none (.move (.tmp 1)), .mk (some 22) none (.appendZ 1 1 [.g (.int .u8 (.lit 0))] (.tmp 20) (.tmp 21)), .mk (some 23) none (.move (.tmp 0)), .mk (some 24) none (.len (.tmp 23)), .mk (some 25) none (.slice 1 (.tmp 22) none (some (.tmp 24))), .mk (some 0) none (.move (.tmp 25))]) .skip))) (.seq (.ops [.mk (some 26) none (.move (.tmp 0)), .mk (some 4) none (.move (.tmp 26))]) .ret))))
theorem c80 : compF Try.prog 80 = some x80 := by kernel_rfl
end Go.Proofs.Ytofdnnjkfpomcaa.E

/- Contracts: Within, Copy, Cut, Same of numbers. -/
namespace Go.Proofs.Ytofdnnjkfpomcaa.E
open Go
set_option linter.unusedVariables false
set_option maxRecDepth 100000

theorem mo0 : Try.prog.follows .mixedOrders = true := by kernel_rfl
theorem ref : ∃ I, I = ints := ⟨_, rfl⟩
/-- Any number as one from 0 to n - 1. -/
def win (v n : Int) : Int := if n < 1 then 0 else if v.tmod n < 0 then IntKind.i64.wrap (v.tmod n + n) else v.tmod n
/-- A number that counts. -/
def isN (z : Int) (n : Nat) : Prop := z = (n : Int)
/-- Rows of one number each. -/
def isL (k : IntKind) (l : List (List G)) (xs : List Int) : Prop := l = nrow k xs
theorem isL.len {k : IntKind} {l : List (List G)} {xs : List Int} (h : isL k l xs) : l.length = xs.length := by rw [h]; simp [nrow]
theorem isL.get {k : IntKind} {l : List (List G)} {xs : List Int} (h : isL k l xs) (i : Nat) : l[i]? = (xs[i]?).map fun x => [.int k (.sym x)] := by rw [h]; simp [nrow]
theorem wrap_in (x : Int) (h1 : -9223372036854775808 ≤ x) (h2 : x ≤ 9223372036854775807) : IntKind.i64.wrap x = x := by
  rw [IntKind.wrap_i64]
  omega
theorem win_in (v n : Int) (h : 0 < n) (hn : n ≤ 4611686018427387904) : 0 ≤ win v n ∧ win v n < n := by
  have h1 := Int.tmod_lt_of_pos v h
  have h2 : -n < v.tmod n := by
    have := Int.lt_tmod_of_pos v h
    omega
  unfold win
  rw [if_neg (by omega)]
  split
  · rw [wrap_in] <;> omega
  · omega
section
variable {P : Program}
theorem bx {f : FuncId} {args : List V1} {m : Mem} {x : Bool} (h : LValid P f args m (fun v m1 => v = boo x ∧ m1 = [])) : LValid P f args m (fun v m1 => ∃ t, t = x ∧ v = boo t ∧ m1 = []) := h.mono fun v m1 h => ⟨_, rfl, h.1, h.2⟩
theorem nx {f : FuncId} {args : List V1} {m : Mem} {k : IntKind} {x : Int} (h : LValid P f args m (fun v m1 => v = .one (.c (.g (.int k (.sym x)))) ∧ m1 = [])) : LValid P f args m (fun v m1 => ∃ t, t = x ∧ v = .one (.c (.g (.int k (.sym t)))) ∧ m1 = []) := h.mono fun v m1 h => ⟨_, rfl, h.1, h.2⟩
variable (hp : P = Try.prog)
include hp
theorem mo : P.follows .mixedOrders = true := hp ▸ mo0
theorem cc {n : Nat} {x : XF} (h : compF Try.prog n = some x) : compF P n = some x := hp ▸ h

theorem within (v n : Z) : LValid P 9 [.c (.g (.int .i64 v)), .c (.g (.int .i64 n))] [] (fun r m1 => ∃ t, t = win v.val n.val ∧ r = i64 t ∧ m1 = []) := by
  refine nx (LValid.sy (LValid.num ?_))
  show LValid P 9 [.c (.g (.int .i64 (.sym v.val))), .c (.g (.int .i64 (.sym n.val)))] [] _
  generalize v.val = v, n.val = n
  obtain ⟨I, hI⟩ := ref
  refine fn_sim hI (mo hp) (cc hp c9) fun Post hP => ?_
  cbv
  refine .br (fun h => ?_) (fun h => ?_)
  · cbv
    have h : n < 1 := by simpa [hI, ints, rCmp] using h
    exact hP _ _ [] [] _ _ .nil rfl rfl rfl rfl rfl ⟨_, rfl, by simp [win, h, Z.val], rfl⟩
  · have h : ¬ n < 1 := by simpa [hI, ints, rCmp] using h
    cbv
    refine .nz (by omega) ?_
    cbv
    refine .br (fun h2 => ?_) (fun h2 => ?_)
    · have h2 : v.tmod n < 0 := by simpa [hI, ints, rCmp, rBin] using h2
      cbv
      exact hP _ _ [] [] _ _ .nil rfl rfl rfl rfl rfl ⟨_, rfl, by simp [win, h, h2, Z.val, hI, ints, rBin], rfl⟩
    · have h2 : ¬ v.tmod n < 0 := by simpa [hI, ints, rCmp, rBin] using h2
      cbv
      exact hP _ _ [] [] _ _ .nil rfl rfl rfl rfl rfl ⟨_, rfl, by simp [win, h, h2, Z.val, hI, ints, rBin], rfl⟩
theorem copy (l : List (List G)) (hl : l.length * 8 ≤ 140737488355328) : LValid P 62 [.c (.bor 1 l)] [] (fun v m1 => v = .one (.c (.row 0 1 none)) ∧ m1 = [.sym 1 l]) := by
  obtain ⟨I, hI⟩ := ref
  refine fn_sim hI (mo hp) (cc hp c62) fun Post hP => ?_
  cbv
  refine .most (by simpa [hI, ints] using hl) (by simp [hI, ints]; omega) ?_
  cbv
  exact hP _ _ [0] [] _ _ (by decide) rfl rfl rfl rfl rfl ⟨rfl, rfl⟩
theorem cut (l : List (List G)) (z : Z) (n : Nat) (hz : isN z.val n) (hl : l.length * 8 ≤ 140737488355328) : LValid P 44 [.c (.bor 1 l), .c (.g (.int .i64 z))] [] (fun v m1 => ∃ l', l' = l.take n ∧ v = .one (.c (.row 0 1 none)) ∧ m1 = [.sym 1 l']) := by
  refine LValid.sy ?_
  show LValid P 44 [.c (.bor 1 l), .c (.g (.int .i64 (.sym z.val)))] [] _
  generalize z.val = z at hz
  obtain ⟨I, hI⟩ := ref
  refine fn_sim hI (mo hp) (cc hp c44) fun Post hP => ?_
  cbv
  obtain ⟨q, hq⟩ : ∃ q, q = min n l.length := ⟨_, rfl⟩
  refine .rng 0 q rfl ?_ (Nat.zero_le _) (by rw [hI, hq]; exact Nat.min_le_right _ _) ?_
  · unfold isN at hz
    simp [hI, ints, hz, hq]
    split <;> omega
  cbv
  have hl' : (I.ext l 0 q).length * 8 ≤ 140737488355328 := by
    rw [hI, hq]
    simp [ints]
    omega
  generalize hx : I.ext l 0 q = l' at hl'
  refine .go [] [] [] (copy hp l' hl') rfl rfl rfl rfl ?_ rfl ?_
  · rw [← hx]
    rfl
  rintro v m1 ⟨rfl, rfl⟩
  cbv
  exact hP _ _ [0] [] _ _ (by decide) rfl rfl rfl rfl rfl ⟨l', by rw [← hx, hI, hq]; simp [ints, List.take_eq_take_iff], rfl, rfl⟩
end
end Go.Proofs.Ytofdnnjkfpomcaa.E

/- Sums of bytes: words of sixteen digits, and what the evaluator's numbers say of them. -/
namespace Go.Proofs.Ytofdnnjkfpomcaa.E
open Go
set_option linter.unusedVariables false

def w16 (b : BitVec 16) : Int := (b.toNat : Int)
def w8 (b : BitVec 8) : Int := (b.toNat : Int)
theorem u16w (n : Int) : IntKind.u16.wrap n = n % 65536 := by simp [IntKind.wrap, IntKind.bits, IntKind.signed]
theorem u8w (n : Int) : IntKind.u8.wrap n = n % 256 := by simp [IntKind.wrap, IntKind.bits, IntKind.signed]
theorem of16 (b : BitVec 16) : BitVec.ofInt 16 (w16 b) = b := by simp [w16]
theorem of8 (b : BitVec 8) : BitVec.ofInt 8 (w8 b) = b := by simp [w8]
theorem wr16 (b : BitVec 16) : IntKind.u16.wrap (b.toNat : Int) = w16 b := by rw [u16w]; have := b.isLt; unfold w16; omega
theorem wr8 (b : BitVec 8) : IntKind.u8.wrap (b.toNat : Int) = w8 b := by rw [u8w]; have := b.isLt; unfold w8; omega
theorem w8_inj {a b : BitVec 8} (h : w8 a = w8 b) : a = b := by unfold w8 at h; exact BitVec.eq_of_toNat_eq (by omega)
theorem xor16 (a b : BitVec 16) : rBin .xor .u16 (w16 a) (w16 b) = w16 (a ^^^ b) := by
  show IntKind.u16.wrap (BitVec.ofInt 16 (w16 a) ^^^ BitVec.ofInt 16 (w16 b)).toNat = _
  rw [of16, of16, wr16]
theorem xor8 (a b : BitVec 8) : rBin .xor .u8 (w8 a) (w8 b) = w8 (a ^^^ b) := by
  show IntKind.u8.wrap (BitVec.ofInt 8 (w8 a) ^^^ BitVec.ofInt 8 (w8 b)).toNat = _
  rw [of8, of8, wr8]
theorem mul16 (a b : BitVec 16) : rBin .mul .u16 (w16 a) (w16 b) = w16 (a * b) := by
  show IntKind.u16.wrap (w16 a * w16 b) = _
  rw [u16w]
  unfold w16
  rw [BitVec.toNat_mul, Int.natCast_emod, Int.natCast_mul]
  rfl
theorem shl16 (a : BitVec 16) (n : Nat) (h : n ≤ 16) : rBin .shl .u16 (w16 a) (n : Int) = w16 (a <<< n) := by
  show IntKind.u16.wrap (w16 a * 2 ^ (min ((n : Int)).toNat 16)) = _
  rw [u16w, Int.toNat_natCast, Nat.min_eq_left h]
  unfold w16
  rw [BitVec.toNat_shiftLeft, Nat.shiftLeft_eq, Int.natCast_emod, Int.natCast_mul, Int.natCast_pow]
  rfl
theorem shr16 (a : BitVec 16) (n : Nat) (h : n ≤ 16) : rBin .shr .u16 (w16 a) (n : Int) = w16 (a >>> n) := by
  show (w16 a).fdiv (2 ^ (min ((n : Int)).toNat 16)) = _
  rw [Int.toNat_natCast, Nat.min_eq_left h, Int.fdiv_eq_ediv_of_nonneg _ (Int.pow_nonneg (by decide))]
  unfold w16
  rw [BitVec.toNat_ushiftRight, Nat.shiftRight_eq_div_pow, Int.natCast_ediv, Int.natCast_pow]
  rfl
theorem wide (c : BitVec 8) : IntKind.u16.wrap (w8 c) = w16 (c.setWidth 16) := by
  rw [u16w]
  have := c.isLt
  unfold w8 w16
  rw [BitVec.toNat_setWidth, Int.natCast_emod]
  rfl
theorem narrow (c : BitVec 16) : IntKind.u8.wrap (w16 c) = w8 (c.setWidth 8) := by
  rw [u8w]
  unfold w8 w16
  rw [BitVec.toNat_setWidth, Int.natCast_emod]
  rfl

/-! ### The sum -/
def bstep (s : BitVec 16) : BitVec 16 := (s <<< 1) ^^^ ((s >>> 15) * 0x1021#16)
def gstep (s : BitVec 16) (b : Bool) : BitVec 16 := (s <<< 1) ^^^ (if s.msb != b then 0x1021#16 else 0#16)
def bsteps : Nat → BitVec 16 → BitVec 16
  | 0, s => s
  | n + 1, s => bsteps n (bstep s)
def byteStep (s : BitVec 16) (c : BitVec 8) : BitVec 16 := bsteps 8 (s ^^^ (c.setWidth 16 <<< 8))
def sumFrom (s : BitVec 16) (l : List (BitVec 8)) : BitVec 16 := l.foldl byteStep s
def crcSum (l : List (BitVec 8)) : BitVec 16 := sumFrom 0xffff#16 l
theorem top16 (s : BitVec 16) : s >>> 15 = if s.msb then 1#16 else 0#16 := by
  apply BitVec.eq_of_toNat_eq
  rw [BitVec.toNat_ushiftRight, Nat.shiftRight_eq_div_pow, BitVec.msb_eq_decide]
  have := s.isLt
  by_cases h : 2 ^ (16 - 1) ≤ s.toNat
  · rw [if_pos (by simpa using h)]
    show s.toNat / 32768 = 1
    have h : 32768 ≤ s.toNat := h
    omega
  · rw [if_neg (by simpa using h)]
    show s.toNat / 32768 = 0
    have h : ¬ 32768 ≤ s.toNat := h
    omega
theorem xlc {n : Nat} (a b c : BitVec n) : a ^^^ (b ^^^ c) = b ^^^ (a ^^^ c) := by rw [← BitVec.xor_assoc, BitVec.xor_comm a, BitVec.xor_assoc]
theorem xself {n : Nat} (a b : BitVec n) : a ^^^ (a ^^^ b) = b := by rw [← BitVec.xor_assoc, BitVec.xor_self, BitVec.zero_xor]
theorem bstep_eq (s : BitVec 16) : bstep s = gstep s false := by
  unfold bstep gstep
  rw [top16]
  cases s.msb <;> rfl
theorem bstep_mix (g m : BitVec 16) : bstep (g ^^^ m) = gstep g m.msb ^^^ (m <<< 1) := by
  rw [bstep_eq]
  unfold gstep
  rw [BitVec.msb_xor, BitVec.shiftLeft_xor_distrib]
  cases g.msb <;> cases m.msb <;> simp [BitVec.xor_assoc, BitVec.xor_comm, xlc, xself]
theorem gstep_xor (a b : BitVec 16) (x y : Bool) : gstep (a ^^^ b) (x != y) = gstep a x ^^^ gstep b y := by
  unfold gstep
  rw [BitVec.msb_xor, BitVec.shiftLeft_xor_distrib]
  cases a.msb <;> cases b.msb <;> cases x <;> cases y <;> simp [BitVec.xor_assoc, BitVec.xor_comm, xlc, xself]
theorem bstep_xor (a b : BitVec 16) : bstep (a ^^^ b) = bstep a ^^^ bstep b := by
  rw [bstep_eq, bstep_eq, bstep_eq, ← gstep_xor]
  rfl
theorem bsteps_xor : ∀ (n : Nat) (a b : BitVec 16), bsteps n (a ^^^ b) = bsteps n a ^^^ bsteps n b
  | 0, a, b => rfl
  | n + 1, a, b => by simp only [bsteps]; rw [bstep_xor, bsteps_xor n]
theorem byteStep_xor (a b : BitVec 16) (x y : BitVec 8) : byteStep (a ^^^ b) (x ^^^ y) = byteStep a x ^^^ byteStep b y := by
  unfold byteStep
  rw [← bsteps_xor, BitVec.setWidth_xor, BitVec.shiftLeft_xor_distrib]
  congr 1
  simp [BitVec.xor_assoc, xlc]
/-- The sum, digit by digit. -/
def gsteps (s : BitVec 16) : List Bool → BitVec 16
  | [] => s
  | b :: l => gsteps (gstep s b) l
def bitsOf (c : BitVec 8) : List Bool := [c.getLsbD 7, c.getLsbD 6, c.getLsbD 5, c.getLsbD 4, c.getLsbD 3, c.getLsbD 2, c.getLsbD 1, c.getLsbD 0]
theorem msb_at (c : BitVec 8) (i : Nat) (h : i < 8) : ((c.setWidth 16 <<< 8) <<< i).msb = c.getLsbD (7 - i) := by
  rw [BitVec.msb_eq_getLsbD_last]
  simp only [BitVec.getLsbD_shiftLeft, BitVec.getLsbD_setWidth]
  match i, h with
  | 0, _ => simp
  | 1, _ => simp
  | 2, _ => simp
  | 3, _ => simp
  | 4, _ => simp
  | 5, _ => simp
  | 6, _ => simp
  | 7, _ => simp
theorem all_out (c : BitVec 8) : (c.setWidth 16 <<< 8) <<< 8 = 0#16 := by
  rw [← BitVec.shiftLeft_add]
  exact BitVec.shiftLeft_eq_zero (by decide)
theorem byteStep_bits (s : BitVec 16) (c : BitVec 8) : byteStep s c = gsteps s (bitsOf c) := by
  unfold byteStep
  have key : ∀ (k i : Nat) (g : BitVec 16), i + k = 8 → bsteps k (g ^^^ ((c.setWidth 16 <<< 8) <<< i)) = gsteps g ((bitsOf c).drop i) := by
    intro k
    induction k with
    | zero =>
      intro i g h
      have : i = 8 := by omega
      subst this
      rw [all_out]
      simp [bsteps, bitsOf, gsteps]
    | succ k ih =>
      intro i g h
      have hi : i < 8 := by omega
      have hd : (bitsOf c).drop i = c.getLsbD (7 - i) :: (bitsOf c).drop (i + 1) := by
        match i, hi with
        | 0, _ => rfl
        | 1, _ => rfl
        | 2, _ => rfl
        | 3, _ => rfl
        | 4, _ => rfl
        | 5, _ => rfl
        | 6, _ => rfl
        | 7, _ => rfl
      rw [hd]
      simp only [bsteps, gsteps]
      rw [bstep_mix, msb_at c i hi, ← BitVec.shiftLeft_add, ih (i + 1) _ (by omega)]
  have := key 8 0 s rfl
  rw [BitVec.shiftLeft_zero] at this
  exact this
end Go.Proofs.Ytofdnnjkfpomcaa.E

/- Sums of bytes: a seal's sum is nought; a burst's is not; spoilt bytes. -/
namespace Go.Proofs.Ytofdnnjkfpomcaa.E
open Go
set_option linter.unusedVariables false

theorem bstep_zero (s : BitVec 16) (h : bstep s = 0#16) : s = 0#16 := by
  rw [bstep_eq] at h
  unfold gstep at h
  cases hm : s.msb with
  | true =>
    rw [hm] at h
    have := congrArg (fun x => x.getLsbD 0) h
    simp at this
  | false =>
    rw [hm] at h
    have h1 : s <<< 1 = 0#16 := by simpa using h
    apply BitVec.eq_of_toNat_eq
    have h2 := congrArg BitVec.toNat h1
    rw [BitVec.toNat_shiftLeft, Nat.shiftLeft_eq] at h2
    rw [BitVec.msb_eq_decide] at hm
    have h3 : ¬ 32768 ≤ s.toNat := by simpa using hm
    have h4 : s.toNat * 2 ^ 1 % 65536 = 0 := h2
    show s.toNat = 0
    omega
theorem bsteps_nought : ∀ (n : Nat), bsteps n 0#16 = 0#16
  | 0 => rfl
  | n + 1 => by
    simp only [bsteps]
    rw [show bstep 0#16 = 0#16 from by decide]
    exact bsteps_nought n
theorem bsteps_zero : ∀ (n : Nat) (s : BitVec 16), bsteps n s = 0#16 → s = 0#16
  | 0, s, h => h
  | n + 1, s, h => bstep_zero s (bsteps_zero n _ h)
theorem bsteps_add : ∀ (a b : Nat) (s : BitVec 16), bsteps (a + b) s = bsteps b (bsteps a s)
  | 0, b, s => by rw [Nat.zero_add]; rfl
  | a + 1, b, s => by rw [Nat.add_right_comm]; simp only [bsteps]; exact bsteps_add a b _
theorem low_shift (l : BitVec 8) : bsteps 8 (l.setWidth 16) = l.setWidth 16 <<< 8 := by
  have key : ∀ (k i : Nat), i + k = 8 → bsteps k (l.setWidth 16 <<< i) = l.setWidth 16 <<< 8 := by
    intro k
    induction k with
    | zero =>
      intro i h
      have : i = 8 := by omega
      subst this
      rfl
    | succ k ih =>
      intro i h
      simp only [bsteps]
      have hm : (l.setWidth 16 <<< i).msb = false := by
        rw [BitVec.msb_eq_getLsbD_last, BitVec.getLsbD_shiftLeft, BitVec.getLsbD_setWidth]
        have : l.getLsbD (15 - i) = false := BitVec.getLsbD_of_ge _ _ (by omega)
        simp [this]
      rw [bstep_eq, gstep, hm, show (if (false != false) = true then 0x1021#16 else 0#16) = 0#16 from rfl, BitVec.xor_zero, ← BitVec.shiftLeft_add]
      exact ih (i + 1) (by omega)
  have := key 8 0 rfl
  rwa [BitVec.shiftLeft_zero] at this
/-- Two bytes as one word. -/
def two (h l : BitVec 8) : BitVec 16 := (h.setWidth 16 <<< 8) ^^^ l.setWidth 16
theorem sum_two (s : BitVec 16) (h l : BitVec 8) : sumFrom s [h, l] = bsteps 16 (s ^^^ two h l) := by
  show byteStep (byteStep s h) l = _
  unfold byteStep two
  rw [bsteps_add 8 8 _, ← BitVec.xor_assoc, bsteps_xor 8 _ (l.setWidth 16), low_shift]
def hi8 (s : BitVec 16) : BitVec 8 := (s >>> 8).setWidth 8
def lo8 (s : BitVec 16) : BitVec 8 := s.setWidth 8
theorem two_parts (s : BitVec 16) : two (hi8 s) (lo8 s) = s := by
  unfold two hi8 lo8
  apply BitVec.eq_of_getLsbD_eq
  intro i hi
  simp only [BitVec.getLsbD_xor, BitVec.getLsbD_shiftLeft, BitVec.getLsbD_setWidth, BitVec.getLsbD_ushiftRight]
  by_cases h : i < 8
  · simp [h, hi]
  · have : 8 + (i - 8) = i := by omega
    have h3 : i - 8 < 8 := by omega
    have h4 : i - 8 < 16 := by omega
    simp [h, hi, h3, h4, this]
theorem two_inj {a b c d : BitVec 8} (h : two a b = two c d) : a = c ∧ b = d := by
  unfold two at h
  constructor
  · apply BitVec.eq_of_getLsbD_eq
    intro i hi
    have := congrArg (fun x => x.getLsbD (i + 8)) h
    simp only [BitVec.getLsbD_xor, BitVec.getLsbD_shiftLeft, BitVec.getLsbD_setWidth] at this
    have h1 : i + 8 < 16 := by omega
    have h2 : ¬ i + 8 < 8 := by omega
    have h5 : i < 16 := by omega
    have h3 : b.getLsbD (i + 8) = false := BitVec.getLsbD_of_ge _ _ (by omega)
    have h4 : d.getLsbD (i + 8) = false := BitVec.getLsbD_of_ge _ _ (by omega)
    simpa [h1, h2, h3, h4, h5] using this
  · apply BitVec.eq_of_getLsbD_eq
    intro i hi
    have := congrArg (fun x => x.getLsbD i) h
    simp only [BitVec.getLsbD_xor, BitVec.getLsbD_shiftLeft, BitVec.getLsbD_setWidth] at this
    have h1 : i < 16 := by omega
    simpa [h1, hi] using this
theorem sumFrom_app (s : BitVec 16) (l r : List (BitVec 8)) : sumFrom s (l ++ r) = sumFrom (sumFrom s l) r := by simp [sumFrom]
/-- What has the sum nought, and two bytes, is a seal. -/
theorem seal_zero (y : List (BitVec 8)) (h l : BitVec 8) : crcSum (y ++ [h, l]) = 0#16 ↔ h = hi8 (crcSum y) ∧ l = lo8 (crcSum y) := by
  unfold crcSum
  rw [sumFrom_app, sum_two]
  constructor
  · intro e
    have h1 := bsteps_zero 16 _ e
    have h2 : sumFrom 0xffff#16 y = two h l := by
      have := congrArg (fun x => x ^^^ two h l) h1
      simpa [BitVec.xor_assoc] using this
    have h3 := (two_parts (sumFrom 0xffff#16 y)).trans h2
    obtain ⟨h4, h5⟩ := two_inj h3
    exact ⟨h4.symm, h5.symm⟩
  · rintro ⟨rfl, rfl⟩
    rw [two_parts, BitVec.xor_self]
    exact bsteps_nought 16

/-! ### Bursts -/
def topw : List Bool → BitVec 16
  | [] => 0#16
  | b :: l => (if b then 0x8000#16 else 0#16) ^^^ (topw l >>> 1)
theorem topw_lsb : ∀ (l : List Bool) (i : Nat), i < 16 → (topw l).getLsbD (15 - i) = (l[i]?).getD false
  | [], i, h => by simp [topw]
  | b :: l, i, h => by
    simp only [topw, BitVec.getLsbD_xor, BitVec.getLsbD_ushiftRight]
    cases i with
    | zero =>
      have : (topw l).getLsbD (1 + (15 - 0)) = false := BitVec.getLsbD_of_ge _ _ (by omega)
      rw [this]
      cases b <;> simp <;> decide
    | succ i =>
      have e : 1 + (15 - (i + 1)) = 15 - i := by omega
      rw [e, topw_lsb l i (by omega)]
      have : (if b then 0x8000#16 else 0#16).getLsbD (15 - (i + 1)) = false := by
        cases b with
        | false => simp
        | true =>
          have h2 : i < 15 := by omega
          have h3 : 15 - (i + 1) < 15 := by omega
          generalize 15 - (i + 1) = n at h3
          match n, h3 with
          | 0, _ => decide
          | 1, _ => decide
          | 2, _ => decide
          | 3, _ => decide
          | 4, _ => decide
          | 5, _ => decide
          | 6, _ => decide
          | 7, _ => decide
          | 8, _ => decide
          | 9, _ => decide
          | 10, _ => decide
          | 11, _ => decide
          | 12, _ => decide
          | 13, _ => decide
          | 14, _ => decide
      rw [this]
      simp
theorem topw_msb (b : Bool) (l : List Bool) : (topw (b :: l)).msb = b := by
  rw [BitVec.msb_eq_getLsbD_last]
  exact topw_lsb (b :: l) 0 (by omega)
theorem topw_shift (b : Bool) (l : List Bool) (h : (l[15]?).getD false = false) : topw (b :: l) <<< 1 = topw l := by
  apply BitVec.eq_of_getLsbD_eq
  intro i hi
  rw [BitVec.getLsbD_shiftLeft]
  by_cases h0 : i < 1
  · have : i = 0 := by omega
    subst this
    have := topw_lsb l 15 (by omega)
    rw [h] at this
    simpa using this.symm
  · have e1 : i - 1 = 15 - (16 - i) := by omega
    have e2 : i = 15 - (15 - i) := by omega
    rw [e1, topw_lsb _ _ (by omega)]
    rw [show (topw l).getLsbD i = (topw l).getLsbD (15 - (15 - i)) from by rw [← e2], topw_lsb _ _ (by omega)]
    rw [show 16 - i = (15 - i) + 1 from by omega]
    simp [hi, h0]
theorem gsteps_top : ∀ (l : List Bool) (g : BitVec 16), (∀ k, 16 ≤ k → l[k]? ≠ some true) → gsteps g l = bsteps l.length (g ^^^ topw l)
  | [], g, h => by simp [gsteps, topw, bsteps]
  | b :: l, g, h => by
    have h15 : (l[15]?).getD false = false := by
      have := h 16 (by omega)
      cases hq : l[15]? with
      | none => rfl
      | some x =>
        cases x with
        | false => rfl
        | true => exact absurd (by simpa using hq) this
    simp only [gsteps, List.length_cons, bsteps]
    rw [gsteps_top l _ (fun k hk => by have := h (k + 1) (by omega); simpa using this), bstep_mix, topw_msb, topw_shift b l h15]
/-- Digits that are not nought stand in sixteen places: then the sum is not nought. -/
theorem burst : ∀ (l : List Bool) (lo : Int), (∀ (k : Nat), l[k]? = some true → lo ≤ (k : Int) ∧ (k : Int) < lo + 16) → gsteps 0#16 l = 0#16 → ∀ (k : Nat), l[k]? ≠ some true
  | [], lo, h, h0, k => by simp
  | false :: l, lo, h, h0, k => by
    have hs : gstep 0#16 false = 0#16 := by decide
    simp only [gsteps] at h0
    rw [hs] at h0
    have := burst l (lo - 1) (fun k hk => by have := h (k + 1) (by simpa using hk); omega) h0
    cases k with
    | zero => simp
    | succ k => simpa using this k
  | true :: l, lo, h, h0, k => by
    exfalso
    have h1 := h 0 rfl
    have h2 : ∀ k, 16 ≤ k → (true :: l)[k]? ≠ some true := fun k hk e => by have := h k e; omega
    rw [gsteps_top _ _ h2, BitVec.zero_xor] at h0
    have h3 := bsteps_zero _ _ h0
    have h4 := topw_msb true l
    rw [h3] at h4
    simp at h4
def digits (l : List (BitVec 8)) : List Bool := l.flatMap bitsOf
theorem sum_digits : ∀ (l : List (BitVec 8)) (s : BitVec 16), sumFrom s l = gsteps s (digits l)
  | [], s => rfl
  | c :: l, s => by
    show sumFrom (byteStep s c) l = _
    rw [sum_digits l, byteStep_bits]
    have : ∀ (a b : List Bool) (s : BitVec 16), gsteps s (a ++ b) = gsteps (gsteps s a) b := by
      intro a
      induction a with
      | nil => intro b s; rfl
      | cons x a ih => intro b s; exact ih b _
    simp only [digits, List.flatMap_cons]
    rw [this]
theorem bitsOf_get (c : BitVec 8) (j : Nat) (h : j < 8) : (bitsOf c)[j]? = some (c.getLsbD (7 - j)) := by
  match j, h with
  | 0, _ => rfl
  | 1, _ => rfl
  | 2, _ => rfl
  | 3, _ => rfl
  | 4, _ => rfl
  | 5, _ => rfl
  | 6, _ => rfl
  | 7, _ => rfl
theorem digits_get : ∀ (l : List (BitVec 8)) (k : Nat), (digits l)[k]? = (l[k / 8]?).map fun c => c.getLsbD (7 - k % 8)
  | [], k => by simp [digits]
  | c :: l, k => by
    simp only [digits, List.flatMap_cons]
    by_cases h : k < 8
    · rw [List.getElem?_append_left (by simpa [bitsOf] using h), bitsOf_get c k h]
      rw [Nat.div_eq_of_lt h, Nat.mod_eq_of_lt h]
      rfl
    · rw [List.getElem?_append_right (by simp [bitsOf]; omega)]
      have := digits_get l (k - 8)
      simp only [digits] at this
      rw [show k - (bitsOf c).length = k - 8 from rfl, this]
      have e1 : k / 8 = (k - 8) / 8 + 1 := by omega
      have e2 : (k - 8) % 8 = k % 8 := by omega
      rw [e1, e2]
      simp

/-! ### Spoilt bytes -/
/-- Is digit k turned? -/
def turned (mask : BitVec 16) (bit : Int) (k : Int) : Bool := decide (0 ≤ k - bit) && decide (k - bit < 16) && mask.getLsbD (15 - (k - bit).toNat)
/-- What the byte at a place is turned by. -/
def pat (mask : BitVec 16) (bit : Int) (a : Nat) : BitVec 8 := if 8 * (a : Int) - bit ≤ -8 ∨ 16 ≤ 8 * (a : Int) - bit then 0#8 else (((mask.setWidth 32 <<< 8) <<< (8 * (a : Int) - bit + 8).toNat) >>> 24).setWidth 8
theorem pat_get (mask : BitVec 16) (bit : Int) (a j : Nat) (h : j < 8) : (pat mask bit a).getLsbD (7 - j) = turned mask bit (8 * (a : Int) + j) := by
  unfold pat turned
  split
  · rename_i h1
    have : ¬ (0 ≤ 8 * (a : Int) + j - bit ∧ 8 * (a : Int) + j - bit < 16) := by omega
    rcases Classical.not_and_iff_not_or_not.1 this with h2 | h2 <;> rw [decide_eq_false h2] <;> simp
  · rename_i h1
    obtain ⟨n, hn⟩ : ∃ n : Nat, 8 * (a : Int) - bit + 8 = n := ⟨(8 * (a : Int) - bit + 8).toNat, by omega⟩
    have hn1 : 1 ≤ n ∧ n < 24 := by omega
    have e : 8 * (a : Int) + j - bit = (n : Int) + j - 8 := by omega
    rw [hn, e, Int.toNat_natCast]
    simp only [BitVec.getLsbD_setWidth, BitVec.getLsbD_ushiftRight, BitVec.getLsbD_shiftLeft]
    have g1 : 7 - j < 8 := by omega
    have g2 : 24 + (7 - j) < 32 := by omega
    by_cases h2 : 8 ≤ n + j
    · by_cases h3 : n + j < 24
      · have g3 : ¬ 24 + (7 - j) < n := by omega
        have g4 : 24 + (7 - j) - n < 32 := by omega
        have g5 : ¬ 24 + (7 - j) - n < 8 := by omega
        have g6 : 24 + (7 - j) - n - 8 < 32 := by omega
        have e1 : 15 - ((n : Int) + j - 8).toNat = 24 + (7 - j) - n - 8 := by omega
        have e2 : (0 : Int) ≤ (n : Int) + j - 8 := by omega
        have e3 : (n : Int) + j - 8 < 16 := by omega
        rw [e1, decide_eq_true e2, decide_eq_true e3]
        simp [g1, g2, g3, g4, g5, g6]
      · have e3 : ¬ ((n : Int) + j - 8 < 16) := by omega
        rw [decide_eq_false e3]
        by_cases g3 : 24 + (7 - j) < n
        · simp [g1, g2, g3]
        · have g5 : 24 + (7 - j) - n < 8 := by omega
          simp [g1, g2, g3, g5]
    · have e2 : ¬ ((0 : Int) ≤ (n : Int) + j - 8) := by omega
      have g7 : mask.getLsbD (24 + (7 - j) - n - 8) = false := BitVec.getLsbD_of_ge _ _ (by omega)
      rw [decide_eq_false e2]
      simp [g7]
def spoilt (mask : BitVec 16) (bit : Int) : Nat → List (BitVec 8) → List (BitVec 8)
  | _, [] => []
  | a, c :: l => (c ^^^ pat mask bit a) :: spoilt mask bit (a + 1) l
theorem spoilt_len (mask : BitVec 16) (bit : Int) : ∀ (l : List (BitVec 8)) (a : Nat), (spoilt mask bit a l).length = l.length
  | [], a => rfl
  | c :: l, a => by simp [spoilt, spoilt_len mask bit l]
theorem spoilt_get (mask : BitVec 16) (bit : Int) : ∀ (l : List (BitVec 8)) (a i : Nat), (spoilt mask bit a l)[i]? = (l[i]?).map fun c => c ^^^ pat mask bit (a + i)
  | [], a, i => by simp [spoilt]
  | c :: l, a, 0 => by simp [spoilt]
  | c :: l, a, i + 1 => by simp [spoilt, spoilt_get mask bit l (a + 1) i, Nat.add_comm 1 i, Nat.add_assoc]
theorem spoilt_none (mask : BitVec 16) (bit : Int) : ∀ (l : List (BitVec 8)) (a : Nat), (∀ i, i < l.length → pat mask bit (a + i) = 0#8) → spoilt mask bit a l = l
  | [], a, h => rfl
  | c :: l, a, h => by
    have h0 := h 0 (by simp)
    simp only [spoilt]
    rw [spoilt_none mask bit l (a + 1) (fun i hi => by have := h (i + 1) (by simpa using hi); rwa [show a + 1 + i = a + (i + 1) from by omega])]
    rw [Nat.add_zero] at h0
    rw [h0, BitVec.xor_zero]
/-- The errors alone. -/
def errs (mask : BitVec 16) (bit : Int) : Nat → Nat → List (BitVec 8)
  | _, 0 => []
  | a, n + 1 => pat mask bit a :: errs mask bit (a + 1) n
theorem errs_get (mask : BitVec 16) (bit : Int) : ∀ (n a i : Nat), (errs mask bit a n)[i]? = if i < n then some (pat mask bit (a + i)) else none
  | 0, a, i => by simp [errs]
  | n + 1, a, 0 => by simp [errs]
  | n + 1, a, i + 1 => by simp [errs, errs_get mask bit n (a + 1) i, Nat.add_comm 1 i, Nat.add_assoc]
theorem spoilt_xor (mask : BitVec 16) (bit : Int) : ∀ (l : List (BitVec 8)) (a : Nat) (s e : BitVec 16), sumFrom (s ^^^ e) (spoilt mask bit a l) = sumFrom s l ^^^ sumFrom e (errs mask bit a l.length)
  | [], a, s, e => rfl
  | c :: l, a, s, e => by
    show sumFrom (byteStep (s ^^^ e) (c ^^^ pat mask bit a)) _ = _
    rw [byteStep_xor]
    exact spoilt_xor mask bit l (a + 1) _ _
theorem crc_spoilt (mask : BitVec 16) (bit : Int) (l : List (BitVec 8)) : crcSum (spoilt mask bit 0 l) = crcSum l ^^^ sumFrom 0#16 (errs mask bit 0 l.length) := by
  have := spoilt_xor mask bit l 0 0xffff#16 0#16
  rwa [BitVec.xor_zero] at this
/-- What has the sum nought, and is spoilt, has it no more. -/
theorem spoilt_found (mask : BitVec 16) (bit : Int) (l : List (BitVec 8)) (h : crcSum l = 0#16) (h2 : crcSum (spoilt mask bit 0 l) = 0#16) : spoilt mask bit 0 l = l := by
  rw [crc_spoilt, h, BitVec.zero_xor, sum_digits] at h2
  have hd : ∀ k : Nat, (digits (errs mask bit 0 l.length))[k]? = some true → turned mask bit (k : Int) = true ∧ k / 8 < l.length := fun k hk => by
    rw [digits_get, errs_get] at hk
    split at hk
    · rename_i h3
      have h4 : k % 8 < 8 := Nat.mod_lt _ (by omega)
      simp only [Option.map_some, Nat.zero_add, pat_get mask bit (k / 8) (k % 8) h4, Option.some.injEq] at hk
      have e : 8 * ((k / 8 : Nat) : Int) + ((k % 8 : Nat) : Int) = (k : Int) := by omega
      rw [e] at hk
      exact ⟨hk, h3⟩
    · simp at hk
  have hw : ∀ k : Nat, (digits (errs mask bit 0 l.length))[k]? = some true → bit ≤ (k : Int) ∧ (k : Int) < bit + 16 := fun k hk => by
    obtain ⟨h3, -⟩ := hd k hk
    unfold turned at h3
    simp only [Bool.and_eq_true, decide_eq_true_eq] at h3
    omega
  have hb := burst _ bit hw h2
  refine spoilt_none mask bit l 0 fun i hi => ?_
  apply BitVec.eq_of_getLsbD_eq
  intro j hj
  rw [Nat.zero_add]
  have h5 := pat_get mask bit i (7 - j) (by omega)
  have h6 : 7 - (7 - j) = j := by omega
  rw [h6] at h5
  have h7 := hb (8 * i + (7 - j))
  rw [digits_get, errs_get] at h7
  have e1 : (8 * i + (7 - j)) / 8 = i := by omega
  have e2 : (8 * i + (7 - j)) % 8 = 7 - j := by omega
  rw [e1, e2, h6, if_pos hi, Nat.zero_add] at h7
  simp at h7
  rw [h7]
  simp
end Go.Proofs.Ytofdnnjkfpomcaa.E

/- Contracts: bytes: Copy, Cut, Same, Clone, Equal, Concat; sums, seals. -/
namespace Go.Proofs.Ytofdnnjkfpomcaa.E
open Go
set_option linter.unusedVariables false
set_option maxRecDepth 100000

/-- Rows of bytes. -/
def isB (l : List (List G)) (bs : List (BitVec 8)) : Prop := l = nrow .u8 (bs.map w8)
theorem isB.isL {l : List (List G)} {bs : List (BitVec 8)} (h : isB l bs) : isL .u8 l (bs.map w8) := h
theorem isB.len {l : List (List G)} {bs : List (BitVec 8)} (h : isB l bs) : l.length = bs.length := by rw [h]; simp [nrow]
theorem isB.get {l : List (List G)} {bs : List (BitVec 8)} (h : isB l bs) {i : Nat} {b : BitVec 8} (hb : bs[i]? = some b) : l[i]? = some [.int .u8 (.sym (w8 b))] := by rw [h]; simp [nrow, hb]
theorem isB.take {l : List (List G)} {bs : List (BitVec 8)} (h : isB l bs) (n : Nat) : isB (l.take n) (bs.take n) := by unfold isB at h ⊢; rw [h]; simp [nrow, List.map_take]
theorem isB.app {l r : List (List G)} {bs cs : List (BitVec 8)} (h : isB l bs) (g : isB r cs) : isB (l ++ r) (bs ++ cs) := by unfold isB at h g ⊢; rw [h, g]; simp [nrow]
theorem nums_gNum (l : List (BitVec 8)) : (nrow .u8 (l.map w8)).map gNum = l.map w8 := by
  induction l with
  | nil => rfl
  | cons a l ih => exact congrArg (w8 a :: ·) ih
theorem isB.inj {l : List (List G)} {bs cs : List (BitVec 8)} (h : isB l bs) (g : isB l cs) : bs = cs := by
  unfold isB at h g
  rw [h] at g
  have h1 : (nrow .u8 (bs.map w8)).map gNum = (nrow .u8 (cs.map w8)).map gNum := by rw [g]
  have h2 := nums_gNum
  rw [h2, h2] at h1
  exact (List.map_inj_right (fun a b e => w8_inj e)).1 h1
theorem strNums_len : ∀ (l : List Int) , (strOfNums l).toList = l.map fun n => UInt8.ofNat n.toNat := by
  intro l
  simp [strOfNums]
theorem seqB {a b : List (List G)} {us bs : List (BitVec 8)} (ha : isB a us) (hb : isB b bs) : ints.seq (ints.b2s a) (ints.b2s b) = (us == bs) := by
  have h2 := nums_gNum
  show ((strOfNums (a.map gNum)).toList == (strOfNums (b.map gNum)).toList) = _
  rw [ha, hb, h2, h2, strNums_len, strNums_len]
  have h3 : ∀ l : List (BitVec 8), (l.map w8).map (fun n => UInt8.ofNat n.toNat) = l.map fun c => UInt8.ofBitVec c := fun l => by
    rw [List.map_map]
    refine List.map_congr_left fun c _ => ?_
    apply UInt8.toNat_inj.1
    have := c.isLt
    simp [w8]
  rw [h3, h3]
  by_cases h : us = bs
  · simp [h]
  · have : us.map (fun c => UInt8.ofBitVec c) ≠ bs.map (fun c => UInt8.ofBitVec c) := fun e => h ((List.map_inj_right (fun a b e => by simpa using e)).1 e)
    rw [beq_eq_false_iff_ne.2 this, beq_eq_false_iff_ne.2 h]
theorem isB.bytes {l : List (List G)} {bs : List (BitVec 8)} (h : isB l bs) : ∀ (i : Nat) (r : List G), l[i]? = some r → ∃ z, r = [.int .u8 z] := fun i r hi => by
  rw [h] at hi
  obtain ⟨x, rfl⟩ := nrow_get _ _ _ _ hi
  exact ⟨_, rfl⟩
section
variable {P : Program} (hp : P = Try.prog)
include hp
theorem cloneB (l : List (List G)) (hl : l.length ≤ 140737488355328) : LValid P 74 [.c (.bor 1 l)] [] (fun v m1 => v = .one (.c (.row 0 1 none)) ∧ m1 = [.sym 1 l]) := by
  refine LValid.own (R := fun v m1 => (v = .one (.c (.row 0 1 none)) ∧ m1 = [.sym 1 l]) ∨ (v = .one (.c (.g .nil)) ∧ m1 = [] ∧ l = [])) 1 ?_ (fun v m1 h => h.imp id (fun ⟨h1, h2, h3⟩ => ⟨h1, by rw [h2, h3]; exact ⟨rfl, rfl⟩⟩))
  obtain ⟨I, hI⟩ := ref
  have hm : I.app [] l = l := by rw [hI]; rfl
  refine fn_sim hI (mo hp) (cc hp c74) fun Post hP => ?_
  cbv
  refine .isnil (fun h => ?_) ?_
  · cbv
    exact hP _ _ [] [] _ _ .nil rfl rfl rfl rfl rfl (.inr ⟨rfl, rfl, h⟩)
  · cbv
    refine .most (show I.len (I.app [] l) * 1 ≤ _ from by rw [hm]; simpa [hI, ints] using hl) (show I.len (I.app [] l) ≤ _ from by rw [hm]; simp [hI, ints]; omega) ?_
    cbv
    exact hP _ _ [1] [] _ _ (by decide) rfl rfl rfl rfl rfl (.inl ⟨rfl, show [Blk.sym 1 (I.app [] l)] = _ from by rw [hm]⟩)
theorem equalB (a b : List (List G)) (us bs : List (BitVec 8)) (ha : isB a us) (hb : isB b bs) : LValid P 73 [.c (.bor 1 a), .c (.bor 1 b)] [] (fun v m1 => ∃ t, t = (us == bs) ∧ v = boo t ∧ m1 = []) := by
  obtain ⟨I, hI⟩ := ref
  have hX : I.seq (I.b2s a) (I.b2s b) = (us == bs) := by rw [hI]; exact seqB ha hb
  refine fn_sim hI (mo hp) (cc hp c73) fun Post hP => ?_
  cbv
  refine .bytes ha.bytes ?_
  cbv
  refine .bytes hb.bytes ?_
  cbv
  exact hP _ _ [] [] _ _ .nil rfl rfl rfl rfl rfl ⟨_, hX, rfl, rfl⟩
theorem growB (z : Int) (n : Nat) (hz : isN z n) (h0 : 0 < n) (hn : n ≤ 140737488355328) : LValid P 80 [.c (.g .nil), .c (.g (.int .i64 (.sym z)))] [] (fun v m1 => ∃ l, v = .one (.c (.sl 0 (.lit 0) 1 (.lit 0) none)) ∧ m1 = [.sym 1 l]) := by
  obtain ⟨I, hI⟩ := ref
  have hX : I.bin .sub .i64 z 0 = (n : Int) := by
    unfold isN at hz
    rw [hI, hz]
    show IntKind.i64.wrap ((n : Int) - 0) = _
    rw [wrap_in] <;> omega
  have hne : I.bin .sub .i64 z 0 ≠ 0 := by rw [hX]; omega
  refine fn_sim hI (mo hp) (cc hp c80) fun Post hP => ?_
  cbv
  refine br_f (by unfold isN at hz; rw [hI, hz]; simp [ints, rCmp]) ?_
  cbv
  refine br_t (show I.cmp .gtr (I.bin .sub .i64 z 0) 0 = true from by rw [hX, hI]; simp [ints, rCmp]; omega) ?_
  cbv
  refine .nz hne (.size n hX (show n * 1 ≤ 140737488355328 from by omega) ?_)
  cbv
  refine .most (show n * 1 ≤ 140737488355328 from by omega) (by omega) ?_
  cbv
  refine .rng 0 0 rfl rfl (Nat.le_refl _) (Nat.zero_le _) ?_
  cbv
  exact hP _ _ [0] [] _ _ (by decide) rfl rfl rfl rfl rfl ⟨_, rfl, rfl⟩
theorem concat2 (a Y : List (List G)) (hY : Y.length = 2) (hl : a.length ≤ 140737488351250) : LValid P 78 [.c (.row 0 1 (some (.lit 2)))] [.lit 1 [[.bor 1 a], [.g (.rows 1 Y)]]] (fun v m1 => v = .one (.c (.row 1 1 none)) ∧ m1 = [.dead, .sym 1 (a ++ Y)]) := by
  obtain ⟨I, hI⟩ := ref
  refine fn_simk hI (mo hp) (cc hp c78) fun Post hP => ?_
  have hal : I.len a = a.length := by rw [hI]; rfl
  have hYl : I.ofNat (I.len Y) = 2 := by rw [hI]; show ((Y.length : Nat) : Int) = 2; rw [hY]; rfl
  obtain ⟨M, hM⟩ : ∃ M : Nat → Mem, M = fun _ => [.lit 1 [[.bor 1 a], [.g (.rows 1 Y)]]] := ⟨_, rfl⟩
  cbv
  refine .loop_next (fun n ts m => ∃ (k : Nat) (z s c : Int), n = 2 - k ∧ isN z k ∧ k ≤ 2 ∧ isN c 2 ∧ isN s (if k = 0 then 0 else if k = 1 then a.length else a.length + 2) ∧
      ts = fr 36 [(0, .one (.c (.row 0 1 (some (.lit 2))))), (3, i64 s), (9, .one (.c (.row 0 1 (some (.lit 2))))), (10, i64 c), (11, i64 z)] ∧ m = [.lit 1 [[.bor 1 a], [.g (.rows 1 Y)]]])
    2 _ _ [0] [] [0, 3, 9, 10, 11] (by decide) rfl rfl rfl ⟨0, 0, 0, 2, rfl, rfl, by omega, rfl, rfl, rfl, rfl⟩ ?_
  rintro next n hnext ts m ⟨k, z, s, c, hn, hz, hk, hc, hs, rfl, rfl⟩
  have hz1 : isN (I.bin .add .i64 z 1) (k + 1) := by unfold isN at hz ⊢; rw [hI]; simp only [ints, rBin]; rw [wrap_in] <;> omega
  cbv
  refine .br (fun g1 => ?_) (fun g1 => ?_)
  · have hk1 : k < 2 := by
      have : z < c := by simpa [hI, ints, rCmp] using g1
      unfold isN at hz hc
      omega
    match k, hk1 with
    | 0, _ =>
      have hs1 : isN (I.bin .add .i64 s (I.ofNat (I.len a))) a.length := by
        have hs : s = 0 := hs
        unfold isN
        rw [hal, hI, hs]
        simp only [ints, rBin]
        rw [wrap_in] <;> omega
      cbv
      refine .idx 0 hz (by decide) ?_
      cbv
      refine br_f (show I.cmp .lss (I.bin .add .i64 s (I.ofNat (I.len a))) 0 = false from by unfold isN at hs1; rw [hs1, hI]; simp [ints, rCmp]) ?_
      cbv
      exact hnext _ _ 1 [0] [] [0, 3, 9, 10, 11] _ _ (by omega) (by decide) rfl rfl rfl ⟨1, _, _, c, rfl, hz1, by omega, hc, hs1, rfl, rfl⟩
    | 1, _ =>
      have hs1 : isN (I.bin .add .i64 s (I.ofNat (I.len Y))) (a.length + 2) := by
        have hs : s = (a.length : Int) := hs
        unfold isN
        rw [hYl, hI, hs]
        simp only [ints, rBin]
        rw [wrap_in] <;> omega
      cbv
      refine .idx 1 hz (by decide) ?_
      cbv
      refine br_f (show I.cmp .lss (I.bin .add .i64 s (I.ofNat (I.len Y))) 0 = false from by unfold isN at hs1; rw [hs1, hI]; simp [ints, rCmp]; omega) ?_
      cbv
      exact hnext _ _ 0 [0] [] [0, 3, 9, 10, 11] _ _ (by omega) (by decide) rfl rfl rfl ⟨2, _, _, c, rfl, hz1, by omega, hc, hs1, rfl, rfl⟩
  have hk2 : k = 2 := by
    have : ¬ z < c := by simpa [hI, ints, rCmp] using g1
    unfold isN at hz hc
    omega
  subst hk2
  have hs : isN s (a.length + 2) := hs
  cbv
  refine .go [] [] [] (growB hp s (a.length + 2) hs (by omega) (by omega)) rfl rfl rfl rfl rfl rfl ?_
  rintro v m1 ⟨l0, rfl, rfl⟩
  have hap1 : I.app (I.ext l0 0 0) a = a := by rw [hI]; simp [ints]
  have hap2 : I.app a Y = a ++ Y := by rw [hI]; rfl
  have hln2 : I.len (a ++ Y) = a.length + 2 := by rw [hI]; simp [ints, hY]
  cbv
  clear hnext
  refine .loop_next (fun n ts m => ∃ (k : Nat) (z c : Int) (q : C) (l : List (List G)), n = 2 - k ∧ isN z k ∧ k ≤ 2 ∧ isN c 2 ∧ ((k = 0 ∧ q = .sl 1 (.lit 0) 1 (.lit 0) none) ∨ (k = 1 ∧ q = .row 1 1 none ∧ l = a) ∨ (k = 2 ∧ q = .row 1 1 none ∧ l = a ++ Y)) ∧
      ts = fr 36 [(6, .one (.c q)), (25, .one (.c (.row 0 1 (some (.lit 2))))), (26, i64 c), (27, i64 z)] ∧ m = [.lit 1 [[.bor 1 a], [.g (.rows 1 Y)]], .sym 1 l])
    2 _ _ [0, 1] [] [6, 25, 26, 27] (by decide) rfl rfl rfl ⟨0, 0, 2, _, l0, rfl, rfl, by omega, rfl, .inl ⟨rfl, rfl⟩, rfl, rfl⟩ ?_
  rintro next n hnext ts m ⟨k, z, c, q, l, hn, hz, hk, hc, hq, rfl, rfl⟩
  have hz1 : isN (I.bin .add .i64 z 1) (k + 1) := by unfold isN at hz ⊢; rw [hI]; simp only [ints, rBin]; rw [wrap_in] <;> omega
  rcases hq with ⟨rfl, rfl⟩ | ⟨rfl, rfl, rfl⟩ | ⟨rfl, rfl, hl2⟩
  · cbv
    refine br_t (by unfold isN at hz hc; rw [hI, hz, hc]; rfl) ?_
    cbv
    refine .idx 0 hz (by decide) ?_
    cbv
    have hap0 : I.app (I.ext l 0 0) a = a := by rw [hI]; simp [ints]
    refine .most (show I.len (I.app (I.ext l 0 0) a) * 1 ≤ 140737488355328 from by rw [hap0, hal]; omega) (show I.len (I.app (I.ext l 0 0) a) ≤ 140737488355328 from by rw [hap0, hal]; omega) ?_
    cbv
    exact hnext _ _ 1 [0, 2] [] [6, 25, 26, 27] _ _ (by omega) (by decide) rfl rfl rfl ⟨1, _, c, _, _, rfl, hz1, by omega, hc, .inr (.inl ⟨rfl, rfl, hap0⟩), rfl, rfl⟩
  · cbv
    refine br_t (by unfold isN at hz hc; rw [hI, hz, hc]; rfl) ?_
    cbv
    refine .idx 1 hz (by decide) ?_
    cbv
    refine .most (show I.len (I.app l Y) * 1 ≤ 140737488355328 from by rw [hap2, hln2]; omega) (show I.len (I.app l Y) ≤ 140737488355328 from by rw [hap2, hln2]; omega) ?_
    cbv
    exact hnext _ _ 0 [0, 2] [] [6, 25, 26, 27] _ _ (by omega) (by decide) rfl rfl rfl ⟨2, _, c, _, _, rfl, hz1, by omega, hc, .inr (.inr ⟨rfl, rfl, hap2⟩), rfl, rfl⟩
  · cbv
    refine br_f (by unfold isN at hz hc; rw [hI, hz, hc]; rfl) ?_
    cbv
    exact hP _ _ [0, 1] [] [0] _ _ (by decide) rfl rfl rfl rfl rfl ⟨rfl, by rw [← hl2]; rfl⟩
theorem sum (l : List (List G)) (bs : List (BitVec 8)) (hl : isB l bs) (hn : bs.length ≤ 140737488351250) : LValid P 77 [.c (.bor 1 l)] [] (fun v m1 => ∃ t, t = w16 (crcSum bs) ∧ v = u16 t ∧ m1 = []) := by
  obtain ⟨I, hI⟩ := ref
  have hle : I.len l = bs.length := by rw [hI]; exact hl.len
  refine fn_sim hI (mo hp) (cc hp c77) fun Post hP => ?_
  cbv
  refine .loop_next (fun n ts m => ∃ (i : Nat) (z c s : Int), n = bs.length - i ∧ isN z i ∧ isN c bs.length ∧ i ≤ bs.length ∧ s = w16 (sumFrom 0xffff#16 (bs.take i)) ∧
      ts = fr 30 [(3, u16 s), (7, .one (.c (.bor 1 l))), (8, i64 c), (9, i64 z)] ∧ m = [])
    bs.length _ _ [] [] [3, 7, 8, 9] (by decide) rfl rfl rfl ⟨0, 0, I.ofNat (I.len l), 65535, rfl, rfl, by rw [hle, hI]; rfl, Nat.zero_le _, rfl, rfl, rfl⟩ ?_
  rintro next n hnext ts m ⟨i, z, c, s, hn, hz, hc, hi, hs, rfl, rfl⟩
  cbv
  refine .br (fun g1 => ?_) (fun g1 => ?_)
  · have hi1 : i < bs.length := by
      have : z < c := by simpa [hI, ints, rCmp] using g1
      unfold isN at hz hc
      omega
    obtain ⟨b, hb⟩ : ∃ b, bs[i]? = some b := ⟨_, List.getElem?_eq_getElem hi1⟩
    have hr := hl.get hb
    have hz1 : isN (I.bin .add .i64 z 1) (i + 1) := by unfold isN at hz ⊢; rw [hI]; simp only [ints, rBin]; rw [wrap_in] <;> omega
    have htk : bs.take (i + 1) = bs.take i ++ [b] := by rw [List.take_add_one, hb]; rfl
    generalize hwb : w8 b = wb at hr
    cbv
    refine .idx i hz (show i < I.len l from by rw [hle]; exact hi1) (.nth _ hr ?_)
    cbv
    obtain ⟨σ, hσ⟩ : ∃ σ, σ = sumFrom 0xffff#16 (bs.take i) ^^^ (b.setWidth 16 <<< 8) := ⟨_, rfl⟩
    have hs1 : I.bin .xor .u16 s (I.bin .shl .u16 (I.conv .u16 wb) 8) = w16 (bsteps 0 σ) := by
      rw [hI, hs, ← hwb]
      show rBin .xor .u16 _ (rBin .shl .u16 (IntKind.u16.wrap (w8 b)) ((8 : Nat) : Int)) = _
      rw [wide, shl16 _ 8 (by omega), xor16, hσ]
      rfl
    have hend : bsteps 8 σ = sumFrom 0xffff#16 (bs.take (i + 1)) := by rw [htk, sumFrom_app, hσ]; rfl
    refine .loop_next (fun n ts m => ∃ (j : Nat) (y s : Int), n = 8 - j ∧ isN y j ∧ j ≤ 8 ∧ s = w16 (bsteps j σ) ∧
        ts = fr 30 [(3, u16 s), (7, .one (.c (.bor 1 l))), (8, i64 c), (9, i64 z), (18, i64 y)] ∧ m = [])
      8 _ _ [] [] [3, 7, 8, 9, 18] (by decide) rfl rfl rfl ⟨0, 0, _, rfl, rfl, by omega, hs1, rfl, rfl⟩ ?_
    rintro next2 n2 hnext2 ts m ⟨j, y, s2, hn2, hy, hj, hs2, rfl, rfl⟩
    cbv
    refine .br (fun g2 => ?_) (fun g2 => ?_)
    · have hj1 : j < 8 := by
        have : y < 8 := by simpa [hI, ints, rCmp] using g2
        unfold isN at hy
        omega
      have hy1 : isN (I.bin .add .i64 y 1) (j + 1) := by unfold isN at hy ⊢; rw [hI]; simp only [ints, rBin]; rw [wrap_in] <;> omega
      have hs3 : I.bin .xor .u16 (I.bin .shl .u16 s2 1) (I.bin .mul .u16 (I.bin .shr .u16 s2 15) 4129) = w16 (bsteps (j + 1) σ) := by
        rw [hI, hs2, bsteps_add]
        show rBin .xor .u16 (rBin .shl .u16 (w16 (bsteps j σ)) ((1 : Nat) : Int)) (rBin .mul .u16 (rBin .shr .u16 (w16 (bsteps j σ)) ((15 : Nat) : Int)) (w16 0x1021#16)) = _
        rw [shl16 _ 1 (by omega), shr16 _ 15 (by omega), mul16, xor16]
        rfl
      cbv
      exact hnext2 _ _ (8 - (j + 1)) [] [] [3, 7, 8, 9, 18] _ _ (by omega) (by decide) rfl rfl rfl ⟨j + 1, _, _, rfl, hy1, hj1, hs3, rfl, rfl⟩
    · have hj1 : j = 8 := by
        have : ¬ y < 8 := by simpa [hI, ints, rCmp] using g2
        unfold isN at hy
        omega
      cbv
      exact hnext _ _ (bs.length - (i + 1)) [] [] [3, 7, 8, 9] _ _ (by omega) (by decide) rfl rfl rfl ⟨i + 1, _, c, _, rfl, hz1, hc, hi1, (by rw [hs2, hj1, hend]; rfl), rfl, rfl⟩
  · have hi1 : i = bs.length := by
      have : ¬ z < c := by simpa [hI, ints, rCmp] using g1
      unfold isN at hz hc
      omega
    cbv
    exact hP _ _ [] [] _ _ .nil rfl rfl rfl rfl rfl ⟨_, by rw [hs, hi1, List.take_length]; rfl, rfl, rfl⟩
end
end Go.Proofs.Ytofdnnjkfpomcaa.E

/- Contracts: seals, what is opened, spoilt bytes. -/
namespace Go.Proofs.Ytofdnnjkfpomcaa.E
open Go
set_option linter.unusedVariables false
set_option maxRecDepth 100000

def sealB (y : List (BitVec 8)) : List (BitVec 8) := y ++ [hi8 (crcSum y), lo8 (crcSum y)]
theorem sealB_len (y : List (BitVec 8)) : (sealB y).length = y.length + 2 := by simp [sealB]
/-- Is it a seal? -/
def isSeal (x : List (BitVec 8)) : Bool := sealB (x.take (x.length - 2)) == x
theorem split2 (x : List (BitVec 8)) (h : 2 ≤ x.length) : ∃ a b, x = x.take (x.length - 2) ++ [a, b] := by
  have h1 : (x.drop (x.length - 2)).length = 2 := by rw [List.length_drop]; omega
  match hq : x.drop (x.length - 2), h1 with
  | [a, b], _ => exact ⟨a, b, by rw [← hq, List.take_append_drop]⟩
theorem isSeal_iff (x : List (BitVec 8)) (h : 2 ≤ x.length) : isSeal x = (crcSum x == 0#16) := by
  obtain ⟨a, b, hx⟩ := split2 x h
  generalize hy : x.take (x.length - 2) = y at hx
  have hs := seal_zero y a b
  rw [← hx] at hs
  unfold isSeal sealB
  rw [hy]
  by_cases h0 : crcSum x = 0#16
  · obtain ⟨e1, e2⟩ := hs.1 h0
    rw [h0, ← e1, ← e2, ← hx]
    simp
  · have : ¬ (y ++ [hi8 (crcSum y), lo8 (crcSum y)] = x) := fun e => by
      rw [hx] at e
      have e3 := List.append_cancel_left e
      simp at e3
      exact h0 (hs.2 ⟨e3.1.symm, e3.2.symm⟩)
    rw [beq_eq_false_iff_ne.2 this, beq_eq_false_iff_ne.2 h0]
theorem seal_is (y : List (BitVec 8)) : isSeal (sealB y) = true := by
  unfold isSeal
  rw [sealB_len, show y.length + 2 - 2 = y.length from by omega]
  simp [sealB]
theorem seal_sum (y : List (BitVec 8)) : crcSum (sealB y) = 0#16 := (seal_zero y _ _).2 ⟨rfl, rfl⟩
theorem seal_take (y : List (BitVec 8)) : (sealB y).take ((sealB y).length - 2) = y := by
  rw [sealB_len, show y.length + 2 - 2 = y.length from by omega]
  simp [sealB]
/-- How far a byte is behind the mask's first digit: no difference where numbers go round. -/
theorem by_wrap (a : Nat) (bit : Int) (ha : a ≤ 1000000000) (hb : -9223372036854775808 ≤ bit ∧ bit ≤ 9223372036854775807) : IntKind.i64.wrap (8 * (a : Int) - bit) = 8 * (a : Int) - bit ∨ (IntKind.i64.wrap (8 * (a : Int) - bit) ≤ -8 ∧ 16 ≤ 8 * (a : Int) - bit) := by
  rw [IntKind.wrap_i64]
  omega
theorem pat_out (mask : BitVec 16) (bit : Int) (a : Nat) (h : 8 * (a : Int) - bit ≤ -8 ∨ 16 ≤ 8 * (a : Int) - bit) : pat mask bit a = 0#8 := by unfold pat; rw [if_pos h]
def w32 (b : BitVec 32) : Int := (b.toNat : Int)
theorem u32w (n : Int) : IntKind.u32.wrap n = n % 4294967296 := by simp [IntKind.wrap, IntKind.bits, IntKind.signed]
theorem wide32 (c : BitVec 16) : IntKind.u32.wrap (w16 c) = w32 (c.setWidth 32) := by
  rw [u32w]
  unfold w16 w32
  rw [BitVec.toNat_setWidth, Int.natCast_emod]
  rfl
theorem narrow32 (c : BitVec 32) : IntKind.u8.wrap (w32 c) = w8 (c.setWidth 8) := by
  rw [u8w]
  unfold w8 w32
  rw [BitVec.toNat_setWidth, Int.natCast_emod]
  rfl
theorem shl32 (a : BitVec 32) (n : Nat) (h : n ≤ 32) : rBin .shl .u32 (w32 a) (n : Int) = w32 (a <<< n) := by
  show IntKind.u32.wrap (w32 a * 2 ^ (min ((n : Int)).toNat 32)) = _
  rw [u32w, Int.toNat_natCast, Nat.min_eq_left h]
  unfold w32
  rw [BitVec.toNat_shiftLeft, Nat.shiftLeft_eq, Int.natCast_emod, Int.natCast_mul, Int.natCast_pow]
  rfl
theorem shr32 (a : BitVec 32) (n : Nat) (h : n ≤ 32) : rBin .shr .u32 (w32 a) (n : Int) = w32 (a >>> n) := by
  show (w32 a).fdiv (2 ^ (min ((n : Int)).toNat 32)) = _
  rw [Int.toNat_natCast, Nat.min_eq_left h, Int.fdiv_eq_ediv_of_nonneg _ (Int.pow_nonneg (by decide))]
  unfold w32
  rw [BitVec.toNat_ushiftRight, Nat.shiftRight_eq_div_pow, Int.natCast_ediv, Int.natCast_pow]
  rfl
/-- The byte as the code turns it. -/
theorem pat_code (mask : BitVec 16) (bit d : Int) (a : Nat) (c : BitVec 8) (hd : d = 8 * (a : Int) - bit) (h1 : -8 < d) (h2 : d < 16) :
    ints.bin .xor .u8 (w8 c) (ints.conv .u8 (ints.bin .shr .u32 (ints.bin .shl .u32 (ints.bin .shl .u32 (ints.conv .u32 (w16 mask)) 8) (ints.bin .add .i64 d 8)) 24)) = w8 (c ^^^ pat mask bit a) := by
  obtain ⟨n, hn⟩ : ∃ n : Nat, d + 8 = n := ⟨(d + 8).toNat, by omega⟩
  have e : ints.bin .add .i64 d 8 = (n : Int) := by
    show IntKind.i64.wrap (d + 8) = _
    rw [wrap_in] <;> omega
  rw [e]
  show rBin .xor .u8 (w8 c) (IntKind.u8.wrap (rBin .shr .u32 (rBin .shl .u32 (rBin .shl .u32 (IntKind.u32.wrap (w16 mask)) ((8 : Nat) : Int)) (n : Int)) ((24 : Nat) : Int))) = _
  rw [wide32, shl32 _ 8 (by omega), shl32 _ n (by omega), shr32 _ 24 (by omega), narrow32, xor8]
  unfold pat
  rw [if_neg (by omega), ← hd, hn, Int.toNat_natCast]
section
variable {P : Program} (hp : P = Try.prog)
include hp
theorem seal_ (l : List (List G)) (bs : List (BitVec 8)) (hl : isB l bs) (hn : bs.length ≤ 140737488351250) : LValid P 69 [.c (.bor 1 l)] [] (fun v m1 => ∃ l', isB l' (sealB bs) ∧ v = .one (.c (.row 0 1 none)) ∧ m1 = [.sym 1 l']) := by
  obtain ⟨I, hI⟩ := ref
  refine fn_sim hI (mo hp) (cc hp c69) fun Post hP => ?_
  cbv
  refine .go [] [] [] (sum hp l bs hl hn) rfl rfl rfl rfl rfl rfl ?_
  rintro v m1 ⟨t, ht, rfl, rfl⟩
  have hx : I.conv .u8 (I.bin .shr .u16 t 8) = w8 (hi8 (crcSum bs)) := by
    rw [hI, ht]
    show IntKind.u8.wrap (rBin .shr .u16 (w16 (crcSum bs)) ((8 : Nat) : Int)) = _
    rw [shr16 _ 8 (by omega), narrow]
    rfl
  have hy : I.conv .u8 t = w8 (lo8 (crcSum bs)) := by
    rw [hI, ht]
    show IntKind.u8.wrap (w16 (crcSum bs)) = _
    rw [narrow]
    rfl
  have hB : isB (l ++ [[.int .u8 (.sym (I.conv .u8 (I.bin .shr .u16 t 8)))], [.int .u8 (.sym (I.conv .u8 t))]]) (sealB bs) := by
    rw [hx, hy]
    exact hl.app rfl
  cbv
  refine .go [1] [] [] (concat2 hp l [[.int .u8 (.sym (I.conv .u8 (I.bin .shr .u16 t 8)))], [.int .u8 (.sym (I.conv .u8 t))]] rfl (by rw [hl.len]; exact hn)) rfl rfl rfl rfl rfl rfl ?_
  rintro v m1 ⟨rfl, rfl⟩
  generalize hw : l ++ [[.int .u8 (.sym (I.conv .u8 (I.bin .shr .u16 t 8)))], [.int .u8 (.sym (I.conv .u8 t))]] = l' at hB
  cbv
  exact hP _ _ [2] [] _ _ (by decide) rfl rfl rfl rfl rfl ⟨_, hB, rfl, by rw [← hw]; rfl⟩
theorem open_ (l : List (List G)) (bs : List (BitVec 8)) (hl : isB l bs) (hn : bs.length ≤ 140737488351250) : LValid P 70 [.c (.bor 1 l)] []
    (fun v m1 => (2 ≤ bs.length ∧ isSeal bs = true ∧ ∃ l', isB l' (bs.take (bs.length - 2)) ∧ v = .tup [.c (.row 0 1 none), gb true] ∧ m1 = [.sym 1 l']) ∨ (¬ (2 ≤ bs.length ∧ isSeal bs = true) ∧ v = .tup [.c (.g .nil), gb false] ∧ m1 = [])) := by
  refine LValid.syv (R := fun v m1 => (2 ≤ bs.length ∧ isSeal bs = true ∧ ∃ l', isB l' (bs.take (bs.length - 2)) ∧ v = .tup [.c (.row 0 1 none), .c (.g (.bool (.lit true)))] ∧ m1 = [.sym 1 l']) ∨ (¬ (2 ≤ bs.length ∧ isSeal bs = true) ∧ v = .tup [.c (.g .nil), .c (.g (.bool (.lit false)))] ∧ m1 = [])) ?_
    (fun v m1 h => h.imp (fun ⟨h1, h2, l', h3, h4, h5⟩ => ⟨h1, h2, l', h3, by rw [h4]; rfl, h5⟩) (fun ⟨h1, h2, h3⟩ => ⟨h1, by rw [h2]; rfl, h3⟩))
  obtain ⟨I, hI⟩ := ref
  have hle : I.len l = bs.length := by rw [hI]; exact hl.len
  have hnn : I.bin .sub .i64 (I.ofNat (I.len l)) 2 = (bs.length : Int) - 2 := by
    rw [hle, hI]
    show IntKind.i64.wrap ((bs.length : Int) - 2) = _
    rw [wrap_in] <;> omega
  refine fn_sim hI (mo hp) (cc hp c70) fun Post hP => ?_
  cbv
  refine .br (fun g1 => ?_) (fun g1 => ?_)
  · have h1 : ¬ (2 ≤ bs.length) := by
      have h' : rCmp .lss (I.bin .sub .i64 (I.ofNat (I.len l)) 2) 0 = true := by rw [hI] at g1 ⊢; exact g1
      rw [hnn] at h'
      have : (bs.length : Int) - 2 < 0 := by simpa [rCmp] using h'
      omega
    cbv
    exact hP _ _ [] [] _ _ .nil rfl rfl rfl rfl rfl (.inr ⟨fun h => h1 h.1, rfl, rfl⟩)
  · have h1 : 2 ≤ bs.length := by
      have h' : rCmp .lss (I.bin .sub .i64 (I.ofNat (I.len l)) 2) 0 = false := by rw [hI] at g1 ⊢; exact g1
      rw [hnn] at h'
      have : ¬ (bs.length : Int) - 2 < 0 := by simpa [rCmp] using h'
      omega
    have hk : I.bin .sub .i64 (I.ofNat (I.len l)) 2 = ((bs.length - 2 : Nat) : Int) := by rw [hnn]; exact (Int.ofNat_sub h1).symm
    have hkl : bs.length - 2 ≤ I.len l := by rw [hle]; omega
    have hE : isB (I.ext l 0 (bs.length - 2)) (bs.take (bs.length - 2)) := by rw [hI]; exact hl.take _
    have hEl : (bs.take (bs.length - 2)).length ≤ 140737488351250 := by rw [List.length_take]; omega
    have hm : I.len (I.ext l 0 (bs.length - 2)) ≤ 140737488355328 := by rw [hI]; show (List.length _) ≤ _; rw [← hI, hE.len]; omega
    generalize hkk : bs.length - 2 = k at hk hkl hE hEl hm
    generalize hx : I.ext l 0 k = lx at hE hm
    cbv
    refine .rng 0 k rfl hk (Nat.zero_le _) hkl ?_
    cbv
    refine .go [] [] [] (seal_ hp lx _ hE hEl) rfl rfl rfl rfl (by rw [← hx]; rfl) rfl ?_
    rintro v m1 ⟨l', hl', rfl, rfl⟩
    cbv
    refine .go [] [] [.bor 1] (equalB hp l' l _ _ hl' hl) rfl rfl rfl rfl rfl rfl ?_
    rintro v m1 ⟨t, ht, rfl, rfl⟩
    have hs : isSeal bs = t := by unfold isSeal; rw [hkk, ht]
    have hm1 : lx.length ≤ 140737488355328 := by rw [hE.len]; omega
    cbv
    refine .br (fun g2 => ?_) (fun g2 => ?_)
    · have h2 : t = false := by simpa [hI, ints] using g2
      cbv
      exact hP _ _ [] [] _ _ .nil rfl rfl rfl rfl rfl (.inr ⟨fun h => by rw [hs, h2] at h; exact absurd h.2 (by decide), rfl, rfl⟩)
    · have h2 : t = true := by simpa [hI, ints] using g2
      cbv
      refine .rng 0 k rfl hk (Nat.zero_le _) hkl ?_
      cbv
      refine .go [] [] [] (cloneB hp lx hm1) rfl rfl rfl rfl (by rw [← hx]; rfl) rfl ?_
      rintro v m1 ⟨rfl, rfl⟩
      cbv
      exact hP _ _ [1] [] _ _ (by decide) rfl rfl rfl rfl rfl (.inl ⟨h1, by rw [hs, h2], lx, by rw [hkk]; exact hE, rfl, rfl⟩)
theorem spoil (l : List (List G)) (bs : List (BitVec 8)) (hl : isB l bs) (hn : bs.length ≤ 1000000000) (zb : Z) (hb : -9223372036854775808 ≤ zb.val ∧ zb.val ≤ 9223372036854775807) (zm : Z) (mask : BitVec 16) (hmask : zm.val = w16 mask) : LValid P 57 [.c (.bor 1 l), .c (.g (.int .i64 zb)), .c (.g (.int .u16 zm))] []
    (fun v m1 => ∃ l', isB l' (spoilt mask zb.val 0 bs) ∧ v = .one (.c (.row 0 1 none)) ∧ m1 = [.sym 1 l']) := by
  refine LValid.sy ?_
  show LValid P 57 [.c (.bor 1 l), .c (.g (.int .i64 (.sym zb.val))), .c (.g (.int .u16 (.sym zm.val)))] [] _
  generalize zb.val = bit at hb
  generalize zm.val = q at hmask
  obtain ⟨I, hI⟩ := ref
  have hle : I.len l = bs.length := by rw [hI]; exact hl.len
  refine fn_sim hI (mo hp) (cc hp c57) fun Post hP => ?_
  cbv
  refine .go [] [] [] (cloneB hp l (by rw [hl.len]; omega)) rfl rfl rfl rfl rfl rfl ?_
  rintro v m1 ⟨rfl, rfl⟩
  cbv
  refine .loop_next (fun n ts m => ∃ (i : Nat) (z c : Int) (L : List (List G)), n = bs.length - i ∧ isN z i ∧ isN c bs.length ∧ i ≤ bs.length ∧ isB L ((spoilt mask bit 0 bs).take i ++ bs.drop i) ∧
      ts = fr 45 [(1, i64 bit), (2, u16 q), (7, .one (.c (.row 0 1 none))), (13, i64 c), (14, i64 z)] ∧ m = [.sym 1 L])
    bs.length _ _ [0] [] [1, 2, 7, 13, 14] (by decide) rfl rfl rfl ⟨0, 0, I.ofNat (I.len l), l, rfl, rfl, by rw [hle, hI]; rfl, Nat.zero_le _, hl, rfl, rfl⟩ ?_
  rintro next n hnext ts m ⟨i, z, c, L, hn2, hz, hc, hi, hL, rfl, rfl⟩
  have hLl : I.len L = bs.length := by
    have := hL.len
    rw [hI]
    show L.length = _
    rw [this, List.length_append, List.length_take, List.length_drop, spoilt_len]
    omega
  cbv
  refine .br (fun g1 => ?_) (fun g1 => ?_)
  · have hi1 : i < bs.length := by
      have : z < c := by simpa [hI, ints, rCmp] using g1
      unfold isN at hz hc
      omega
    have hz1 : isN (I.bin .add .i64 z 1) (i + 1) := by unfold isN at hz ⊢; rw [hI]; simp only [ints, rBin]; rw [wrap_in] <;> omega
    obtain ⟨b, hb2⟩ : ∃ b, bs[i]? = some b := ⟨_, List.getElem?_eq_getElem hi1⟩
    have hsg := spoilt_get mask bit bs 0 i
    rw [hb2, Nat.zero_add, Option.map_some] at hsg
    have hstep : ∀ x, x = b ^^^ pat mask bit i → isB (L.set i [.int .u8 (.sym (w8 x))]) ((spoilt mask bit 0 bs).take (i + 1) ++ bs.drop (i + 1)) := fun x hx => by
      unfold isB at hL ⊢
      rw [hL]
      have hd : bs.drop i = b :: bs.drop (i + 1) := by
        rw [List.drop_eq_getElem_cons hi1]
        congr 1
        have := List.getElem?_eq_getElem hi1
        rw [hb2] at this
        exact (Option.some.inj this).symm
      rw [hd, List.take_add_one, hsg, hx]
      have htl : ((spoilt mask bit 0 bs).take i).length = i := by rw [List.length_take, spoilt_len]; omega
      unfold nrow
      simp only [List.map_append, List.map_cons, Option.toList, List.append_assoc, List.map_nil]
      rw [List.set_append_right _ _ (by simp only [List.length_map]; omega)]
      rw [List.length_map, List.length_map, htl, Nat.sub_self]
      rfl
    have hsame : b = b ^^^ pat mask bit i → isB L ((spoilt mask bit 0 bs).take (i + 1) ++ bs.drop (i + 1)) := fun hx => by
      have h1 := hstep b hx
      have h2 : L.set i [.int .u8 (.sym (w8 b))] = L := by
        apply List.ext_getElem?
        intro k
        rw [List.getElem?_set]
        by_cases hk : i = k
        · subst hk
          have : L[i]? = some [.int .u8 (.sym (w8 b))] := hL.get (by
            rw [List.getElem?_append_right (by rw [List.length_take, spoilt_len]; omega), List.length_take, spoilt_len, List.getElem?_drop]
            rw [← hb2]
            congr 1
            omega)
          have hil : i < L.length := (List.getElem?_eq_some_iff.1 this).1
          rw [if_pos rfl, if_pos hil, this]
        · simp [hk]
      rwa [h2] at h1
    have hLi : L[i]? = some [.int .u8 (.sym (w8 b))] := hL.get (by
      rw [List.getElem?_append_right (by rw [List.length_take, spoilt_len]; omega), List.length_take, spoilt_len, List.getElem?_drop]
      rw [← hb2]
      congr 1
      omega)
    obtain ⟨d, hd⟩ : ∃ d, d = I.bin .sub .i64 (I.bin .mul .i64 8 z) bit := ⟨_, rfl⟩
    have hdv : d = IntKind.i64.wrap (8 * (i : Int) - bit) := by
      unfold isN at hz
      rw [hd, hI, hz]
      show IntKind.i64.wrap (IntKind.i64.wrap (8 * (i : Int)) - bit) = _
      rw [wrap_in (8 * (i : Int)) (by omega) (by omega)]
    have hw := by_wrap i bit (by omega) hb
    rw [← hdv] at hw
    have hskip : (d ≤ -8 ∨ 16 ≤ d) → b = b ^^^ pat mask bit i := fun h => by
      rw [pat_out mask bit i (by omega), BitVec.xor_zero]
    have hdo : ¬ (d ≤ -8 ∨ 16 ≤ d) → I.bin .xor .u8 (w8 b) (I.conv .u8 (I.bin .shr .u32 (I.bin .shl .u32 (I.bin .shl .u32 (I.conv .u32 q) 8) (I.bin .add .i64 d 8)) 24)) = w8 (b ^^^ pat mask bit i) := fun h => by
      rw [hI, hmask]
      exact pat_code mask bit d i b (by omega) (by omega) (by omega)
    have hsh : ¬ (d ≤ -8 ∨ 16 ≤ d) → 0 ≤ I.bin .add .i64 d 8 := fun h => by
      rw [hI]
      show 0 ≤ IntKind.i64.wrap (d + 8)
      rw [wrap_in] <;> omega
    rw [hd] at hskip hdo hsh
    generalize hwb : w8 b = wb at hLi hdo
    have hstep2 := hstep _ rfl
    generalize hwx : w8 (b ^^^ pat mask bit i) = wx at hstep2 hdo
    have dole : ∀ x : Bool, I.cmp .leq (I.bin .sub .i64 (I.bin .mul .i64 8 z) bit) (-8) = x → decide (d ≤ -8) = x := fun x h => by rw [← hd, hI] at h; exact h
    have doge : ∀ x : Bool, I.cmp .geq (I.bin .sub .i64 (I.bin .mul .i64 8 z) bit) 16 = x → decide (d ≥ 16) = x := fun x h => by rw [← hd, hI] at h; exact h
    rw [← hd] at hskip hdo hsh
    rw [hd] at hdo hsh
    have hil : i < I.len L := by rw [hLl]; exact hi1
    have hset : I.set L i [.int .u8 (.sym wx)] = L.set i [.int .u8 (.sym wx)] := by rw [hI]; rfl
    cbv
    refine .br (fun g2 => ?_) (fun g2 => ?_)
    · have h2 := hsame (hskip (.inl (of_decide_eq_true (dole _ g2))))
      cbv
      exact hnext _ _ (bs.length - (i + 1)) [0] [] [1, 2, 7, 13, 14] _ _ (by omega) (by decide) rfl rfl rfl ⟨i + 1, _, c, L, rfl, hz1, hc, hi1, h2, rfl, rfl⟩
    have h2 := of_decide_eq_false (dole _ g2)
    cbv
    refine .br (fun g3 => ?_) (fun g3 => ?_)
    · have h2 := hsame (hskip (.inr (of_decide_eq_true (doge _ g3))))
      cbv
      exact hnext _ _ (bs.length - (i + 1)) [0] [] [1, 2, 7, 13, 14] _ _ (by omega) (by decide) rfl rfl rfl ⟨i + 1, _, c, L, rfl, hz1, hc, hi1, h2, rfl, rfl⟩
    have h3 := of_decide_eq_false (doge _ g3)
    have hno : ¬ (d ≤ -8 ∨ 16 ≤ d) := fun h => h.elim h2 h3
    rw [hd] at hno
    replace hdo := hdo hno
    replace hsh := hsh hno
    cbv
    refine .drawn [0] ?_
    cbv
    refine .idx i hz hil ?_
    cbv
    refine .nonneg hsh ?_
    cbv
    refine .nth _ hLi ?_
    cbv
    refine .idx i hz hil ?_
    cbv
    refine .nth _ hLi ?_
    cbv
    exact hnext _ _ (bs.length - (i + 1)) [0] [] [1, 2, 7, 13, 14] _ _ (by omega) (by decide) rfl rfl rfl ⟨i + 1, _, c, _, rfl, hz1, hc, hi1, (by rw [← hset, ← hdo] at hstep2; exact hstep2), rfl, rfl⟩
  · have hi1 : i = bs.length := by
      have : ¬ z < c := by simpa [hI, ints, rCmp] using g1
      unfold isN at hz hc
      omega
    have hL2 : isB L (spoilt mask bit 0 bs) := by
      rw [hi1, List.drop_length, List.append_nil, List.take_of_length_le (by rw [spoilt_len]; omega)] at hL
      exact hL
    cbv
    exact hP _ _ [0] [] _ _ (by decide) rfl rfl rfl rfl rfl ⟨_, hL2, rfl, rfl⟩
end
end Go.Proofs.Ytofdnnjkfpomcaa.E

/- Contracts: packets: which may be; their bytes. -/
namespace Go.Proofs.Ytofdnnjkfpomcaa.E
open Go
set_option linter.unusedVariables false
set_option maxRecDepth 100000

/-- A packet. -/
structure PK where
  k : Int
  f : Int
  t : Int
  i : Int
  l : Int
  p : Int
  s : Int
  b : Bool
  d : List Int
  deriving DecidableEq
def PK.row (q : PK) (D : List (List G)) : List G := [.int .i64 (.sym q.k), .int .i64 (.sym q.f), .int .i64 (.sym q.t), .int .i64 (.sym q.i), .int .i64 (.sym q.l), .int .i64 (.sym q.p), .int .i64 (.sym q.s), .bool (.sym q.b), .rows 1 D]
/-- A packet that is told, its data in cell c. -/
def PK.told (q : PK) (c : C) : V1 := .agg [.g (.int .i64 (.sym q.k)), .g (.int .i64 (.sym q.f)), .g (.int .i64 (.sym q.t)), .g (.int .i64 (.sym q.i)), .g (.int .i64 (.sym q.l)), .g (.int .i64 (.sym q.p)), .g (.int .i64 (.sym q.s)), .g (.bool (.sym q.b)), c]
def PK.nought : PK := ⟨0, 0, 0, 0, 0, 0, 0, false, []⟩
structure PZ where
  k : Z
  f : Z
  t : Z
  i : Z
  l : Z
  p : Z
  s : Z
  b : BB
def PZ.pk (q : PZ) (d : List Int) : PK := ⟨q.k.val, q.f.val, q.t.val, q.i.val, q.l.val, q.p.val, q.s.val, q.b.val, d⟩
/-- A packet that is handed in, its data lent. -/
def PZ.arg (q : PZ) (D : List (List G)) : V1 := .agg [.g (.int .i64 q.k), .g (.int .i64 q.f), .g (.int .i64 q.t), .g (.int .i64 q.i), .g (.int .i64 q.l), .g (.int .i64 q.p), .g (.int .i64 q.s), .g (.bool q.b), .bor 1 D]
def isP (L : List (List G)) (ps : List PK) : Prop := L = ps.map fun q => q.row (nrow .i64 q.d)
theorem isP.len {L : List (List G)} {ps : List PK} (h : isP L ps) : L.length = ps.length := by rw [h]; simp
theorem isP.get {L : List (List G)} {ps : List PK} (h : isP L ps) {i : Nat} {q : PK} (hq : ps[i]? = some q) : ∃ D, isL .i64 D q.d ∧ L[i]? = some (q.row D) := ⟨nrow .i64 q.d, rfl, by rw [h]; simp [hq]⟩
theorem isP.app {L : List (List G)} {ps : List PK} (h : isP L ps) (q : PK) (D : List (List G)) (hD : isL .i64 D q.d) : isP (L ++ [q.row D]) (ps ++ [q]) := by unfold isP at h ⊢; rw [h, hD]; simp
def belB (n a b : Int) : Bool := decide (a ≤ n) && decide (n < b)
def checkB (q : PK) : Bool := belB q.f 0 6 && belB q.t 0 6 && belB q.i 0 4096 && (belB q.k 1 10 && belB q.l 0 8 && belB q.p (-1) 6) && belB q.s 0 3 && decide (q.d.length ≤ 4)
/-- The byte of a number from the digit n on. -/
def byteAt (v : Int) (n : Nat) : BitVec 8 := BitVec.ofInt 8 (v.fdiv (2 ^ n))
theorem w8_ofInt (x : Int) : w8 (BitVec.ofInt 8 x) = x % 256 := by
  unfold w8
  rw [BitVec.toNat_ofInt]
  have h1 := Int.emod_nonneg x (show (256 : Int) ≠ 0 by decide)
  show ((x % 256).toNat : Int) = _
  omega
theorem byte_code (v : Int) (n : Nat) (h : n ≤ 64) : IntKind.u8.wrap (rBin .shr .i64 v (n : Int)) = w8 (byteAt v n) := by
  show IntKind.u8.wrap (v.fdiv (2 ^ (min ((n : Int)).toNat 64))) = _
  rw [u8w, Int.toNat_natCast, Nat.min_eq_left h]
  exact (w8_ofInt _).symm
theorem byte_conv (v : Int) : IntKind.u8.wrap v = w8 (BitVec.ofInt 8 v) := by rw [u8w, w8_ofInt]
def wordB (v : Int) : List (BitVec 8) := [byteAt v 56, byteAt v 48, byteAt v 40, byteAt v 32, byteAt v 24, byteAt v 16, byteAt v 8, byteAt v 0]
def headB (q : PK) : List (BitVec 8) := [BitVec.ofInt 8 q.k, BitVec.ofInt 8 q.f, BitVec.ofInt 8 q.t, byteAt q.i 8, BitVec.ofInt 8 q.i, BitVec.ofInt 8 q.l, BitVec.ofInt 8 (IntKind.i64.wrap (q.p + 1)), BitVec.ofInt 8 q.s, (if q.b then 1#8 else 0#8), BitVec.ofInt 8 (q.d.length : Int)]
def packB (q : PK) : List (BitVec 8) := headB q ++ q.d.flatMap wordB
def isW (z : Int) (k : Nat) : Prop := z = 56 - 8 * (k : Int)
theorem words_len (d : List Int) : (d.flatMap wordB).length = 8 * d.length := by
  induction d with
  | nil => rfl
  | cons x d ih =>
    rw [List.flatMap_cons, List.length_append, ih]
    show 8 + 8 * d.length = 8 * (d.length + 1)
    omega
theorem packB_len (q : PK) : (packB q).length = 10 + 8 * q.d.length := by
  unfold packB
  rw [List.length_append, words_len]
  rfl
section
variable {P : Program} (hp : P = Try.prog)
include hp
theorem below (n a b : Z) : LValid P 53 [.c (.g (.int .i64 n)), .c (.g (.int .i64 a)), .c (.g (.int .i64 b))] [] (fun v m1 => ∃ t, t = belB n.val a.val b.val ∧ v = boo t ∧ m1 = []) := by
  refine bx (LValid.boo (LValid.sy ?_))
  show LValid P 53 [.c (.g (.int .i64 (.sym n.val))), .c (.g (.int .i64 (.sym a.val))), .c (.g (.int .i64 (.sym b.val)))] [] _
  generalize n.val = n, a.val = a, b.val = b
  obtain ⟨I, hI⟩ := ref
  have hX : ∀ q : Bool, I.cmp .geq n a = q → belB n a b = (q && I.cmp .lss n b) := fun q h => by
    rw [← h, hI]
    unfold belB
    show _ = (decide (n ≥ a) && decide (n < b))
    by_cases h2 : a ≤ n
    · rw [decide_eq_true h2]
    · rw [decide_eq_false h2]
  refine fn_sim hI (mo hp) (cc hp c53) fun Post hP => ?_
  cbv
  refine .br (fun g => ?_) (fun g => ?_)
  · have g := hX _ g
    cbv
    exact hP _ _ [] [] _ _ .nil rfl rfl rfl rfl rfl ⟨_, rfl, g.symm, rfl⟩
  · have g := hX _ g
    cbv
    exact hP _ _ [] [] _ _ .nil rfl rfl rfl rfl rfl ⟨_, rfl, g.symm, rfl⟩
theorem flag (b : BB) : LValid P 67 [.c (.g (.bool b))] [] (fun v m1 => ∃ t, t = w8 (if b.val then 1#8 else 0#8) ∧ v = u8 t ∧ m1 = []) := by
  refine nx (LValid.num (LValid.sy ?_))
  show LValid P 67 [.c (.g (.bool (.sym b.val)))] [] _
  generalize b.val = b
  obtain ⟨I, hI⟩ := ref
  refine fn_sim hI (mo hp) (cc hp c67) fun Post hP => ?_
  cbv
  refine .br (fun g => ?_) (fun g => ?_)
  · have hX : (1 : Int) = w8 (if b then 1#8 else 0#8) := by rw [g]; rfl
    cbv
    exact hP _ _ [] [] _ _ .nil rfl rfl rfl rfl rfl ⟨_, rfl, hX, rfl⟩
  · have hX : (0 : Int) = w8 (if b then 1#8 else 0#8) := by rw [g]; rfl
    cbv
    exact hP _ _ [] [] _ _ .nil rfl rfl rfl rfl rfl ⟨_, rfl, hX, rfl⟩
set_option maxHeartbeats 4000000 in
theorem check (z : PZ) (D : List (List G)) (d : List Int) (hD : isL .i64 D d) : LValid P 30 [z.arg D] [] (fun v m1 => ∃ t, t = (if checkB (z.pk d) then 0 else 1) ∧ v = i64 t ∧ m1 = []) := by
  refine nx (LValid.num (LValid.sy ?_))
  show LValid P 30 [.agg [.g (.int .i64 (.sym z.k.val)), .g (.int .i64 (.sym z.f.val)), .g (.int .i64 (.sym z.t.val)), .g (.int .i64 (.sym z.i.val)), .g (.int .i64 (.sym z.l.val)), .g (.int .i64 (.sym z.p.val)), .g (.int .i64 (.sym z.s.val)), .g (.bool (.sym z.b.val)), .bor 1 D]] [] _
  rw [show z.pk d = ⟨z.k.val, z.f.val, z.t.val, z.i.val, z.l.val, z.p.val, z.s.val, z.b.val, d⟩ from rfl]
  generalize z.k.val = k, z.f.val = f, z.t.val = t, z.i.val = i, z.l.val = l, z.p.val = p, z.s.val = s, z.b.val = b
  obtain ⟨I, hI⟩ := ref
  have hle : I.len D = d.length := by rw [hI]; exact hD.len
  have hlen := hD.len
  refine fn_sim hI (mo hp) (cc hp c30) fun Post hP => ?_
  cbv
  repeat' (first
    | (refine .go [] [] [] (below hp _ _ _) rfl rfl rfl rfl rfl rfl ?_; rintro r m1 ⟨y, hy, rfl, rfl⟩; cbv)
    | (refine .br (fun g => ?_) (fun g => ?_) <;> cbv))
  all_goals refine hP _ _ [] [] _ _ .nil rfl rfl rfl rfl rfl ⟨_, rfl, ?_, rfl⟩
  all_goals
    clear hP hD hle
    subst hI
    simp_all [checkB, Z.val, ints, rCmp]
    try omega
set_option maxHeartbeats 2000000 in
theorem word (v : Z) : LValid P 68 [.c (.g (.int .i64 v))] [] (fun r m1 => ∃ l, isB l (wordB v.val) ∧ r = .one (.c (.row 0 1 none)) ∧ m1 = [.sym 1 l]) := by
  refine LValid.sy ?_
  show LValid P 68 [.c (.g (.int .i64 (.sym v.val)))] [] _
  generalize v.val = v
  obtain ⟨I, hI⟩ := ref
  refine fn_sim hI (mo hp) (cc hp c68) fun Post hP => ?_
  cbv
  refine .own 3 1 rfl ?_
  refine .loop_next (fun n ts m => ∃ (k : Nat) (z : Int) (l : List (List G)), n = 8 - k ∧ isW z k ∧ k ≤ 8 ∧ isB l ((wordB v).take k) ∧
      ts = fr 17 [(0, i64 v), (3, .one (.c (.row 0 1 none))), (4, i64 z)] ∧ m = [.sym 1 l])
    8 _ _ [0] [] [0, 3, 4] (by decide) rfl rfl rfl ⟨0, 56, [], rfl, rfl, by omega, rfl, rfl, rfl⟩ ?_
  rintro next n hnext ts m ⟨k, z, l, hn, hz, hk, hl, rfl, rfl⟩
  have hzv : z = 56 - 8 * (k : Int) := hz
  have dge : ∀ q : Bool, I.cmp .geq z 0 = q → decide (k < 8) = q := fun q h => by
    rw [hI] at h
    rw [← h]
    show _ = decide (z ≥ 0)
    by_cases h2 : k < 8
    · rw [decide_eq_true h2, decide_eq_true (by omega)]
    · rw [decide_eq_false h2, decide_eq_false (by omega)]
  have hz1 : k < 8 → isW (I.bin .sub .i64 z 8) (k + 1) := fun h => by
    unfold isW
    rw [hI, hzv]
    show IntKind.i64.wrap (56 - 8 * (k : Int) - 8) = _
    rw [wrap_in] <;> omega
  have hnn : k < 8 → 0 ≤ z := fun h => by omega
  have hby : k < 8 → I.conv .u8 (I.bin .shr .i64 v z) = w8 (byteAt v (56 - 8 * k)) := fun h => by
    rw [hI, hzv]
    have e : 56 - 8 * (k : Int) = ((56 - 8 * k : Nat) : Int) := by omega
    rw [e]
    exact byte_code v _ (by omega)
  have htk : k < 8 → (wordB v).take (k + 1) = (wordB v).take k ++ [byteAt v (56 - 8 * k)] := fun h => by
    match k, h with
    | 0, _ => rfl
    | 1, _ => rfl
    | 2, _ => rfl
    | 3, _ => rfl
    | 4, _ => rfl
    | 5, _ => rfl
    | 6, _ => rfl
    | 7, _ => rfl
  have hap : k < 8 → isB (I.app l [[.int .u8 (.sym (I.conv .u8 (I.bin .shr .i64 v z)))]]) ((wordB v).take (k + 1)) := fun h => by
    rw [hby h, htk h, hI]
    exact hl.app rfl
  have hapl : k < 8 → I.len (I.app l [[.int .u8 (.sym (I.conv .u8 (I.bin .shr .i64 v z)))]]) ≤ 8 := fun h => by
    have := (hap h).len
    rw [List.length_take] at this
    rw [hI] at this ⊢
    show List.length _ ≤ _
    omega
  clear hzv
  cbv
  refine .br (fun g1 => ?_) (fun g1 => ?_)
  · have hk1 : k < 8 := of_decide_eq_true (dge _ g1)
    replace hz1 := hz1 hk1
    replace hap := hap hk1
    replace hapl := hapl hk1
    cbv
    refine .nonneg (hnn hk1) ?_
    cbv
    refine .most (show I.len (I.app l [[.int .u8 (.sym (I.conv .u8 (I.bin .shr .i64 v z)))]]) * 1 ≤ 140737488355328 from by omega) (show I.len (I.app l [[.int .u8 (.sym (I.conv .u8 (I.bin .shr .i64 v z)))]]) ≤ 140737488355328 from by omega) ?_
    cbv
    exact hnext _ _ (8 - (k + 1)) [2] [] [0, 3, 4] _ _ (by omega) (by decide) rfl rfl rfl ⟨k + 1, _, _, rfl, hz1, hk1, hap, rfl, rfl⟩
  · have hk1 : k = 8 := by have := of_decide_eq_false (dge _ g1); omega
    have hfin : isB l (wordB v) := by rw [hk1] at hl; exact hl
    cbv
    exact hP _ _ [0] [] _ _ (by decide) rfl rfl rfl rfl rfl ⟨_, hfin, rfl, rfl⟩
set_option maxHeartbeats 4000000 in
theorem pack (z : PZ) (D : List (List G)) (d : List Int) (hD : isL .i64 D d) : LValid P 55 [z.arg D] []
    (fun v m1 => (checkB (z.pk d) = false ∧ v = .tup [.c (.g .nil), gi .i64 1] ∧ m1 = []) ∨ (checkB (z.pk d) = true ∧ ∃ l, isB l (sealB (packB (z.pk d))) ∧ v = .tup [.c (.row 0 1 none), gi .i64 0] ∧ m1 = [.sym 1 l])) := by
  refine LValid.sy ?_
  show LValid P 55 [.agg [.g (.int .i64 (.sym z.k.val)), .g (.int .i64 (.sym z.f.val)), .g (.int .i64 (.sym z.t.val)), .g (.int .i64 (.sym z.i.val)), .g (.int .i64 (.sym z.l.val)), .g (.int .i64 (.sym z.p.val)), .g (.int .i64 (.sym z.s.val)), .g (.bool (.sym z.b.val)), .bor 1 D]] [] _
  rw [show z.pk d = ⟨z.k.val, z.f.val, z.t.val, z.i.val, z.l.val, z.p.val, z.s.val, z.b.val, d⟩ from rfl]
  generalize z.k.val = k, z.f.val = f, z.t.val = t, z.i.val = i, z.l.val = l, z.p.val = p, z.s.val = s, z.b.val = b
  refine LValid.syv (R := fun v m1 => (checkB ⟨k, f, t, i, l, p, s, b, d⟩ = false ∧ v = .tup [.c (.g .nil), gi .i64 1] ∧ m1 = []) ∨ (checkB ⟨k, f, t, i, l, p, s, b, d⟩ = true ∧ ∃ L, isB L (sealB (packB ⟨k, f, t, i, l, p, s, b, d⟩)) ∧ v = .tup [.c (.row 0 1 none), .c (.g (.int .i64 (.lit 0)))] ∧ m1 = [.sym 1 L])) ?_
    (fun v m1 h => h.imp (fun ⟨h1, h2, h3⟩ => ⟨h1, by rw [h2]; rfl, h3⟩) (fun ⟨h1, L, h2, h3, h4⟩ => ⟨h1, L, h2, by rw [h3]; rfl, h4⟩))
  obtain ⟨I, hI⟩ := ref
  have hle : I.len D = d.length := by rw [hI]; exact hD.len
  refine fn_sim hI (mo hp) (cc hp c55) fun Post hP => ?_
  cbv
  refine .go [] [] [] (check hp ⟨.sym k, .sym f, .sym t, .sym i, .sym l, .sym p, .sym s, .sym b⟩ D d hD) rfl rfl rfl rfl rfl rfl ?_
  rintro v m1 ⟨e, he, rfl, rfl⟩
  have he : e = if checkB ⟨k, f, t, i, l, p, s, b, d⟩ then 0 else 1 := he
  cases hc : checkB ⟨k, f, t, i, l, p, s, b, d⟩ with
  | false =>
    rw [hc] at he
    have he : e = 1 := he
    subst he
    cbv
    refine br_t (by rw [hI]; rfl) ?_
    cbv
    exact hP _ _ [] [] _ _ .nil rfl rfl rfl rfl rfl (.inl ⟨hc, rfl, rfl⟩)
  | true =>
    rw [hc] at he
    have he : e = 0 := he
    have hdl : d.length ≤ 4 := by
      unfold checkB at hc
      simp only [Bool.and_eq_true, decide_eq_true_eq] at hc
      exact hc.2
    have hck := hc
    clear hc
    subst he
    cbv
    refine br_f (by rw [hI]; rfl) ?_
    cbv
    refine .drawn [] ?_
    cbv
    refine .go [] [] [] (flag hp (.sym b)) rfl rfl rfl rfl rfl rfl ?_
    rintro r m1 ⟨fb, hfb, rfl, rfl⟩
    have hfb : fb = w8 (if b then 1#8 else 0#8) := hfb
    have q1 : I.conv .u8 k = w8 (BitVec.ofInt 8 k) := by rw [hI]; exact byte_conv k
    have q2 : I.conv .u8 f = w8 (BitVec.ofInt 8 f) := by rw [hI]; exact byte_conv f
    have q3 : I.conv .u8 t = w8 (BitVec.ofInt 8 t) := by rw [hI]; exact byte_conv t
    have q4 : I.conv .u8 (I.bin .shr .i64 i 8) = w8 (byteAt i 8) := by rw [hI]; exact byte_code i 8 (by omega)
    have q5 : I.conv .u8 i = w8 (BitVec.ofInt 8 i) := by rw [hI]; exact byte_conv i
    have q6 : I.conv .u8 l = w8 (BitVec.ofInt 8 l) := by rw [hI]; exact byte_conv l
    have q7 : I.conv .u8 (I.bin .add .i64 p 1) = w8 (BitVec.ofInt 8 (IntKind.i64.wrap (p + 1))) := by rw [hI]; exact byte_conv _
    have q8 : I.conv .u8 s = w8 (BitVec.ofInt 8 s) := by rw [hI]; exact byte_conv s
    have q9 : I.conv .u8 (I.ofNat (I.len D)) = w8 (BitVec.ofInt 8 (d.length : Int)) := by rw [hle, hI]; exact byte_conv _
    have hH : isB [[.int .u8 (.sym (I.conv .u8 k))], [.int .u8 (.sym (I.conv .u8 f))], [.int .u8 (.sym (I.conv .u8 t))], [.int .u8 (.sym (I.conv .u8 (I.bin .shr .i64 i 8)))], [.int .u8 (.sym (I.conv .u8 i))], [.int .u8 (.sym (I.conv .u8 l))], [.int .u8 (.sym (I.conv .u8 (I.bin .add .i64 p 1)))], [.int .u8 (.sym (I.conv .u8 s))], [.int .u8 (.sym fb)], [.int .u8 (.sym (I.conv .u8 (I.ofNat (I.len D))))]] (headB ⟨k, f, t, i, l, p, s, b, d⟩) := by
      rw [q1, q2, q3, q4, q5, q6, q7, q8, q9, hfb]
      rfl
    obtain ⟨HL, hHL⟩ : ∃ HL, HL = headB ⟨k, f, t, i, l, p, s, b, d⟩ := ⟨_, rfl⟩
    have hHl : HL.length = 10 := by rw [hHL]; rfl
    have hPK : packB ⟨k, f, t, i, l, p, s, b, d⟩ = HL ++ d.flatMap wordB := by rw [hHL]; rfl
    rw [← hHL] at hH
    clear q1 q2 q3 q4 q5 q6 q7 q8 q9 hHL hfb
    cbv
    refine .loop_next (fun n ts m => ∃ (j : Nat) (z c : Int) (B : List (List G)) (cl : C) (blk : Blk), n = d.length - j ∧ isN z j ∧ isN c d.length ∧ j ≤ d.length ∧ isB B (HL ++ (d.take j).flatMap wordB) ∧
        ((cl = .row 0 1 (some (.lit 10)) ∧ blk = .lit 1 [[.g (.int .u8 (.sym (I.conv .u8 k)))], [.g (.int .u8 (.sym (I.conv .u8 f)))], [.g (.int .u8 (.sym (I.conv .u8 t)))], [.g (.int .u8 (.sym (I.conv .u8 (I.bin .shr .i64 i 8))))], [.g (.int .u8 (.sym (I.conv .u8 i)))], [.g (.int .u8 (.sym (I.conv .u8 l)))], [.g (.int .u8 (.sym (I.conv .u8 (I.bin .add .i64 p 1))))], [.g (.int .u8 (.sym (I.conv .u8 s)))], [.g (.int .u8 (.sym fb))], [.g (.int .u8 (.sym (I.conv .u8 (I.ofNat (I.len D)))))]] ∧ B = [[.int .u8 (.sym (I.conv .u8 k))], [.int .u8 (.sym (I.conv .u8 f))], [.int .u8 (.sym (I.conv .u8 t))], [.int .u8 (.sym (I.conv .u8 (I.bin .shr .i64 i 8)))], [.int .u8 (.sym (I.conv .u8 i))], [.int .u8 (.sym (I.conv .u8 l))], [.int .u8 (.sym (I.conv .u8 (I.bin .add .i64 p 1)))], [.int .u8 (.sym (I.conv .u8 s))], [.int .u8 (.sym fb)], [.int .u8 (.sym (I.conv .u8 (I.ofNat (I.len D))))]]) ∨ (cl = .row 0 1 none ∧ blk = .sym 1 B)) ∧
        ts = fr 61 [(5, .one (.c cl)), (48, .one (.c (.bor 1 D))), (49, i64 c), (50, i64 z)] ∧ m = [blk])
      d.length _ _ [1] [] [5, 48, 49, 50] (by decide) rfl rfl rfl ⟨0, 0, I.ofNat (I.len D), _, _, _, rfl, rfl, by rw [hle, hI]; rfl, Nat.zero_le _, by rw [List.take_zero, List.flatMap_nil, List.append_nil]; exact hH, .inl ⟨rfl, rfl, rfl⟩, rfl, rfl⟩ ?_
    rintro next n hnext ts m ⟨j, z, c, B, cl, blk, hn, hz, hc, hj, hB, hcl, rfl, rfl⟩
    have hz1 : isN (I.bin .add .i64 z 1) (j + 1) := by unfold isN at hz ⊢; rw [hI]; simp only [ints, rBin]; rw [wrap_in] <;> omega
    have hjl : j < d.length → j < I.len D := fun h => by rw [hle]; exact h
    have hget : j < d.length → ∃ x, d[j]? = some x ∧ D[j]? = some [.int .i64 (.sym x)] := fun h => ⟨_, List.getElem?_eq_getElem h, by rw [hD.get, List.getElem?_eq_getElem h]; rfl⟩
    have hBl : B.length ≤ 50 := by
      rw [hB.len, List.length_append, hHl, words_len, List.length_take]
      omega
    have hap : ∀ (x : Int) (w : List (List G)), d[j]? = some x → isB w (wordB x) → isB (I.app B w) (HL ++ (d.take (j + 1)).flatMap wordB) := fun x w hx hw => by
      rw [hI, List.take_add_one, hx, List.flatMap_append]
      have := hB.app hw
      rw [List.append_assoc] at this
      show isB (B ++ w) _
      simpa using this
    have hapl : ∀ (x : Int) (w : List (List G)), isB w (wordB x) → I.len (I.app B w) ≤ 58 := fun x w hw => by
      have h8 : w.length = 8 := hw.len
      rw [hI]
      show (B ++ w).length ≤ _
      rw [List.length_append]
      omega
    have hseal : j = d.length → isB B (packB ⟨k, f, t, i, l, p, s, b, d⟩) := fun h => by
      rw [h, List.take_length] at hB
      rw [hPK]
      exact hB
    have hpl : (packB ⟨k, f, t, i, l, p, s, b, d⟩).length ≤ 140737488351250 := by
      rw [packB_len]
      show 10 + 8 * d.length ≤ _
      omega
    rcases hcl with ⟨rfl, rfl, rfl⟩ | ⟨rfl, rfl⟩
    · cbv
      refine .br (fun g1 => ?_) (fun g1 => ?_)
      · have hj1 : j < d.length := by
          have : z < c := by simpa [hI, ints, rCmp] using g1
          unfold isN at hz hc
          omega
        obtain ⟨x, hx, hr⟩ := hget hj1
        cbv
        refine .idx j hz (hjl hj1) (.nth _ hr ?_)
        cbv
        refine .go [] [] [] (word hp (.sym x)) rfl rfl rfl rfl rfl rfl ?_
        rintro r m1 ⟨w, hw, rfl, rfl⟩
        have h1 := hap x w hx hw
        have h2 := hapl x w hw
        cbv
        refine .most (Nat.le_trans (Nat.mul_le_mul_right 1 h2) (by decide)) (Nat.le_trans h2 (by decide)) ?_
        cbv
        exact hnext _ _ (d.length - (j + 1)) [2] [] [5, 48, 49, 50] _ _ (by omega) (by decide) rfl rfl rfl ⟨j + 1, _, c, _, _, _, rfl, hz1, hc, hj1, h1, .inr ⟨rfl, rfl⟩, rfl, rfl⟩
      · have hj1 : j = d.length := by
          have : ¬ z < c := by simpa [hI, ints, rCmp] using g1
          unfold isN at hz hc
          omega
        cbv
        refine .go [] [] [.bor 1] (seal_ hp _ _ (hseal hj1) hpl) rfl rfl rfl rfl rfl rfl ?_
        rintro r m1 ⟨l', hl', rfl, rfl⟩
        cbv
        exact hP _ _ [1] [] _ _ (by decide) rfl rfl rfl rfl rfl (.inr ⟨hck, l', hl', rfl, rfl⟩)
    · cbv
      refine .br (fun g1 => ?_) (fun g1 => ?_)
      · have hj1 : j < d.length := by
          have : z < c := by simpa [hI, ints, rCmp] using g1
          unfold isN at hz hc
          omega
        obtain ⟨x, hx, hr⟩ := hget hj1
        cbv
        refine .idx j hz (hjl hj1) (.nth _ hr ?_)
        cbv
        refine .go [] [] [] (word hp (.sym x)) rfl rfl rfl rfl rfl rfl ?_
        rintro r m1 ⟨w, hw, rfl, rfl⟩
        have h1 := hap x w hx hw
        have h2 := hapl x w hw
        cbv
        refine .most (show I.len (I.app B w) * 1 ≤ 140737488355328 from by omega) (show I.len (I.app B w) ≤ 140737488355328 from by omega) ?_
        cbv
        exact hnext _ _ (d.length - (j + 1)) [2] [] [5, 48, 49, 50] _ _ (by omega) (by decide) rfl rfl rfl ⟨j + 1, _, c, _, _, _, rfl, hz1, hc, hj1, h1, .inr ⟨rfl, rfl⟩, rfl, rfl⟩
      · have hj1 : j = d.length := by
          have : ¬ z < c := by simpa [hI, ints, rCmp] using g1
          unfold isN at hz hc
          omega
        cbv
        refine .go [] [] [.bor 1] (seal_ hp _ _ (hseal hj1) hpl) rfl rfl rfl rfl rfl rfl ?_
        rintro r m1 ⟨l', hl', rfl, rfl⟩
        cbv
        exact hP _ _ [1] [] _ _ (by decide) rfl rfl rfl rfl rfl (.inr ⟨hck, l', hl', rfl, rfl⟩)
end
end Go.Proofs.Ytofdnnjkfpomcaa.E
