/- Contracts for FabricBounds, packed: X1 X QA CM CN CB CC PB. -/
import Derived.Test.YtofdnnjkfpomcaaZFabricBounds1
import Derived.Test.YtofdnnjkfpomcaaRows
import Derived.KernelRfl
import Derived.Test.YtofdnnjkfpomcaaZFabricBounds3
import Derived.Laws.BitsAllLaws
/- The functions' compact code, as Lean computes it. -/
namespace Go.Proofs.Ytofdnnjkfpomcaa.E
open Go
set_option maxRecDepth 100000

def x9z : List C := [.g (.int .i64 (.lit 0)), .g (.int .i64 (.lit 0)), .g (.int .i64 (.lit 0)), .g (.int .i64 (.lit 0)), .g (.int .i64 (.lit 0)), .g (.int .i64 (.lit 0)), .g (.int .i64 (.lit 0)), .g (.bool (.lit false)), .g .nil]
def xN (z : Int) : Opd := .cst (.g (.int .i64 (.lit z)))
def xB (b : Bool) : Opd := .cst (.g (.bool (.lit b)))
def xS (d : Nat) (o : XOp) : XO := .mk (some d) none o
def xG (d g : Nat) (w : Bool) (o : XOp) : XO := .mk (some d) (some (g, w)) o
def x3 : XF := XF.mk 198 [.tmp 4] (.seq (.ops [xS 4 (.move (xB false))]) (.seq (.ops [xS 29 (.build [.g (.int .i64 (.lit 0)), .g (.int .i64 (.lit 0)), .g (.int .i64 (.lit 0)), .g (.int .i64 (.lit 0)), .g (.int .i64 (.lit 0)), .g (.int .i64 (.lit 0)), .g (.int .i64 (.lit 0)), .g .nil] [(0, 1, .cst (.g (.int .i64 (.lit 4)))), (1, 1, .cst (.g (.int .i64 (.lit 1)))), (2, 1, .cst (.g (.int .i64 (.lit 1)))), (3, 1, .cst (.g (.int .i64 (.lit 1)))), (4, 1, .cst (.g (.int .i64 (.lit 1)))), (5, 1, .cst (.g (.int .i64 (.lit 3)))), (6, 1, .cst (.g (.int .i64 (.lit 8))))]), xS 5 (.alloc [.g (.int .i64 (.lit 0)), .g (.int .i64 (.lit 0)), .g (.int .i64 (.lit 0)), .g (.int .i64 (.lit 0)), .g (.int .i64 (.lit 0)), .g (.int .i64 (.lit 0)), .g (.int .i64 (.lit 0)), .g .nil]), .mk none none (.store 8 (.tmp 5) (.tmp 29))]) (.seq (.ops [xS 30 (.load (some 8) (.tmp 5)), xS 31 (.call 8 [.tmp 30]), xS 6 (.move (.tmp 31))]) (.seq (.seq (.ops [xS 32 (.move (.tmp 6)), xS 33 (.eq false .ptr (.tmp 32) (.cst (.g .nilp)))]) (.cond (.tmp 33) (.seq (.ops [xS 4 (.move (xB false))]) .ret) .skip)) (.seq (.ops [xS 7 (.alloc [.g .nil, .g .nil, .g .nil, .g .nil, .g .nil, .g .nil, .g .nil, .g .nil])]) (.seq (.seq (.ops [xS 8 (.move (xN 0))]) (.join (.block 0 (.loop (.seq (.seq (.ops [xS 34 (.move (.tmp 8)), xS 35 (.move (.tmp 0)), xS 36 (.len (.tmp 35)), xS 37 (.cmp .lss (.tmp 34) (.tmp 36)), xS 38 (.move (.tmp 37)), xG 39 38 true (.move (.tmp 8)), xG 40 38 true (.cmp .lss (.tmp 39) (xN 14)), xS 41 (.pick (.tmp 38) (.tmp 40) (xB false))]) (.cond (.tmp 41) .skip (.exit 0))) (.seq (.block 1 (.seq (.ops [xS 44 (.move (.tmp 0)), xS 45 (.move (.tmp 8)), xS 46 (.indexAddr none 1 (.tmp 44) (.tmp 45)), xS 47 (.load none (.tmp 46)), xS 48 (.call 9 [.tmp 47, .cst (.g (.int .i64 (.lit 4)))]), xS 9 (.move (.tmp 48))]) (.seq (.ops [xS 10 (.move (xN 0)), xS 11 (.move (xN 3))]) (.seq (.seq (.ops [xS 49 (.move (.tmp 8)), xS 50 (.move (.tmp 1)), xS 51 (.len (.tmp 50)), xS 52 (.cmp .lss (.tmp 49) (.tmp 51)), xS 53 (.move (.tmp 52)), xG 54 53 true (.move (.tmp 1)), xG 55 53 true (.move (.tmp 8)), xG 56 53 true (.indexAddr none 1 (.tmp 54) (.tmp 55)), xG 57 53 true (.load none (.tmp 56)), xS 58 (.pick (.tmp 53) (.tmp 57) (xB false))]) (.join (.cond (.tmp 58) (.ops [xS 10 (.move (xN 1)), xS 11 (.move (xN 8))]) .skip))) (.seq (.ops [xS 59 (.move (.tmp 11)), xS 60 (.move (.tmp 9)), xS 61 (.move (.tmp 8)), xS 62 (.build x9z [(0, 1, .tmp 59), (1, 1, .tmp 60), (2, 1, .cst (.g (.int .i64 (.lit 2)))), (3, 1, .tmp 61)]), xS 12 (.alloc x9z), .mk none none (.store 9 (.tmp 12) (.tmp 62))]) (.seq (.seq (.drawn 14 (.op 0 true (xS 63 (.move (.tmp 6))) (.op 1 true (xS 64 (.load (some 9) (.tmp 12))) (.op 4 true (xS 67 (.move (.tmp 9))) (.op 5 true (xS 68 (.move (.tmp 10))) (.op 6 true (xS 69 (.indexAddr (some 4) 2 (.tmp 7) (.tmp 67))) (.op 7 true (xS 70 (.indexAddr (some 2) 1 (.tmp 69) (.tmp 68))) (.op 8 true (xS 71 (.load none (.tmp 70))) (.op 9 true (xS 72 (.len (.tmp 71))) (.op 10 true (xS 73 (.cmp .lss (.tmp 72) (xN 3))) (.op 2 false (xS 65 (.call 10 [.tmp 63, .tmp 64])) (.op 3 false (xS 66 (.cmp .eql (.tmp 65) (xN 0))) (.op 11 false (xS 74 (.eq true .bool (.tmp 66) (.tmp 73))) .nil))))))))))))) (.cond (.tmp 74) (.seq (.ops [xS 4 (.move (xB false))]) .ret) .skip)) (.seq (.ops [xS 75 (.move (.tmp 9)), xS 76 (.move (.tmp 10)), xS 77 (.indexAddr (some 4) 2 (.tmp 7) (.tmp 75)), xS 78 (.indexAddr (some 2) 1 (.tmp 77) (.tmp 76)), xS 79 (.load none (.tmp 78)), xS 80 (.len (.tmp 79)), xS 81 (.cmp .lss (.tmp 80) (xN 3))]) (.cond (.tmp 81) (.drawn 17 (.op 0 true (xS 82 (.move (.tmp 9))) (.op 1 true (xS 83 (.move (.tmp 10))) (.op 2 true (xS 84 (.move (.tmp 9))) (.op 3 true (xS 85 (.move (.tmp 10))) (.op 4 true (xS 86 (.indexAddr (some 4) 2 (.tmp 7) (.tmp 84))) (.op 5 true (xS 87 (.indexAddr (some 2) 1 (.tmp 86) (.tmp 85))) (.op 7 true (xS 89 (.load (some 9) (.tmp 12))) (.op 10 true (xS 92 (.indexAddr (some 4) 2 (.tmp 7) (.tmp 82))) (.alt (.op 6 false (xS 88 (.load none (.tmp 87))) (.op 8 false (xS 90 (.buildSlice 9 x9z 1 [(0, .tmp 89)])) (.op 9 false (xS 91 (.append 9 88 x9z (.tmp 88) (.tmp 90))) (.op 11 false (xS 93 (.indexAddr (some 2) 1 (.tmp 92) (.tmp 83))) (.op 12 false (.mk none none (.store 1 (.tmp 93) (.tmp 91))) .nil))))) (.op 8 false (xS 90 (.buildSlice 9 x9z 1 [(0, .tmp 89)])) (.op 6 false (xS 88 (.load none (.tmp 87))) (.op 9 false (xS 91 (.append 9 88 x9z (.tmp 88) (.tmp 90))) (.op 11 false (xS 93 (.indexAddr (some 2) 1 (.tmp 92) (.tmp 83))) (.op 12 false (.mk none none (.store 1 (.tmp 93) (.tmp 91))) .nil))))))))))))))) .skip)))))))) (.ops [xS 42 (.move (.tmp 8)), xS 43 (.bin .add (.tmp 42) (xN 1)), xS 8 (.move (.tmp 43))]))))))) (.seq (.ops [xS 13 (.move (.cst (.g .nil))), xS 14 (.move (.cst (.g .nil)))]) (.seq (.seq (.ops [xS 94 (.move (xN 0))]) (.block 2 (.loop (.seq (.ops [xS 95 (.cmp .lss (.tmp 94) (xN 4))]) (.seq (.cond (.tmp 95) .skip (.exit 2)) (.seq (.block 3 (.seq (.ops [xS 96 (.move (.tmp 94)), xS 15 (.move (.tmp 96))]) (.drawn 22 (.op 0 true (xS 97 (.move (.tmp 13))) (.op 1 true (xS 98 (.move (.tmp 15))) (.op 2 true (xS 99 (.indexAddr (some 4) 2 (.tmp 7) (.tmp 98))) (.op 3 true (xS 100 (.indexAddr (some 2) 1 (.tmp 99) (xN 0))) (.op 4 true (xS 101 (.load none (.tmp 100))) (.op 6 true (xS 103 (.move (.tmp 15))) (.op 7 true (xS 104 (.indexAddr (some 4) 2 (.tmp 7) (.tmp 103))) (.op 8 true (xS 105 (.indexAddr (some 2) 1 (.tmp 104) (xN 1))) (.op 9 true (xS 106 (.load none (.tmp 105))) (.op 5 false (xS 102 (.append 9 88 x9z (.tmp 97) (.tmp 101))) (.op 10 false (xS 107 (.append 9 88 x9z (.tmp 102) (.tmp 106))) (.op 11 false (xS 13 (.move (.tmp 107))) .nil))))))))))))))) (.ops [xS 108 (.bin .add (.tmp 94) (xN 1)), xS 94 (.move (.tmp 108))]))))))) (.seq (.seq (.ops [xS 109 (.move (.tmp 6)), xS 110 (.call 11 [.tmp 109]), xS 111 (.move (.tmp 13)), xS 112 (.len (.tmp 111)), xS 113 (.cmp .neq (.tmp 110) (.tmp 112))]) (.cond (.tmp 113) (.seq (.ops [xS 4 (.move (xB false))]) .ret) .skip)) (.seq (.seq (.ops [xS 114 (.move (.tmp 13)), xS 115 (.len (.tmp 114)), xS 116 (.move (xN 0))]) (.block 4 (.loop (.seq (.ops [xS 117 (.cmp .lss (.tmp 116) (.tmp 115))]) (.seq (.cond (.tmp 117) .skip (.exit 4)) (.seq (.block 5 (.seq (.ops [xS 118 (.move (.tmp 116)), xS 119 (.indexAddr none 9 (.tmp 114) (.tmp 116)), xS 120 (.load (some 9) (.tmp 119)), xS 17 (.alloc x9z), xS 16 (.move (.tmp 118)), .mk none none (.store 9 (.tmp 17) (.tmp 120))]) (.seq (.ops [xS 122 (.move (.tmp 6)), xS 123 (.move (.tmp 16)), xS 124 (.call 12 [.tmp 122, .tmp 123]), xS 121 (.move (.tmp 124)), xS 125 (.extract (.tmp 121) 0), xS 126 (.extract (.tmp 121) 1), xS 18 (.alloc x9z), .mk none none (.store 9 (.tmp 18) (.tmp 125)), xS 19 (.move (.tmp 126))]) (.seq (.ops [xS 127 (.move (.tmp 19)), xS 128 (.not (.tmp 127)), xS 129 (.move (.tmp 128)), xG 130 129 false (.load (some 9) (.tmp 17)), xG 131 129 false (.load (some 9) (.tmp 18)), xG 132 129 false (.call 13 [.tmp 130, .tmp 131]), xG 133 129 false (.not (.tmp 132)), xS 134 (.pick (.tmp 129) (xB true) (.tmp 133))]) (.cond (.tmp 134) (.seq (.ops [xS 4 (.move (xB false))]) .ret) .skip))))) (.ops [xS 135 (.bin .add (.tmp 116) (xN 1)), xS 116 (.move (.tmp 135))]))))))) (.seq (.ops [xS 20 (.move (xN 0))]) (.seq (.seq (.ops [xS 136 (.move (.tmp 13)), xS 137 (.len (.tmp 136)), xS 138 (.bin .sub (.tmp 137) (xN 1)), xS 21 (.move (.tmp 138))]) (.block 6 (.loop (.seq (.seq (.ops [xS 139 (.move (.tmp 21)), xS 140 (.cmp .geq (.tmp 139) (xN 0))]) (.cond (.tmp 140) .skip (.exit 6))) (.seq (.block 7 (.seq (.ops [xS 22 (.move (xN 0))]) (.seq (.seq (.ops [xS 143 (.move (.tmp 13)), xS 144 (.move (.tmp 21)), xS 145 (.indexAddr none 9 (.tmp 143) (.tmp 144)), xS 146 (.fieldAddr 0 (.tmp 145)), xS 147 (.load none (.tmp 146)), xS 148 (.cmp .eql (.tmp 147) (xN 8))]) (.join (.cond (.tmp 148) (.seq (.seq (.ops [xS 149 (.move (.tmp 20)), xS 150 (.cmp .gtr (.tmp 149) (xN 0))]) (.cond (.tmp 150) (.ops [xS 22 (.move (xN 5))]) .skip)) (.ops [xS 151 (.move (.tmp 20)), xS 152 (.bin .add (.tmp 151) (xN 1)), xS 20 (.move (.tmp 152))])) (.seq (.ops [xS 153 (.move (.tmp 14)), xS 154 (.len (.tmp 153)), xS 155 (.cmp .eql (.tmp 154) (xN 8))]) (.cond (.tmp 155) (.ops [xS 22 (.move (xN 5))]) (.ops [xS 156 (.move (.tmp 14)), xS 157 (.move (.tmp 13)), xS 158 (.move (.tmp 21)), xS 159 (.indexAddr none 9 (.tmp 157) (.tmp 158)), xS 160 (.load (some 9) (.tmp 159)), xS 161 (.buildSlice 9 x9z 1 [(0, .tmp 160)]), xS 162 (.append 9 88 x9z (.tmp 156) (.tmp 161)), xS 14 (.move (.tmp 162))])))))) (.seq (.ops [xS 163 (.move (.tmp 6)), xS 164 (.move (.tmp 21)), xS 165 (.call 14 [.tmp 163, .tmp 164, .cst (.g (.int .i64 (.lit 0))), .cst (.g (.int .u16 (.lit 0)))]), xS 166 (.move (.tmp 22)), xS 167 (.cmp .neq (.tmp 165) (.tmp 166))]) (.cond (.tmp 167) (.seq (.ops [xS 4 (.move (xB false))]) .ret) .skip))))) (.ops [xS 141 (.move (.tmp 21)), xS 142 (.bin .sub (.tmp 141) (xN 1)), xS 21 (.move (.tmp 142))])))))) (.seq (.seq (.ops [xS 168 (.move (.tmp 14)), xS 169 (.len (.tmp 168)), xS 170 (.move (xN 0))]) (.block 8 (.loop (.seq (.ops [xS 171 (.cmp .lss (.tmp 170) (.tmp 169))]) (.seq (.cond (.tmp 171) .skip (.exit 8)) (.seq (.block 9 (.seq (.ops [xS 172 (.indexAddr none 9 (.tmp 168) (.tmp 170)), xS 173 (.load (some 9) (.tmp 172)), xS 24 (.alloc x9z), .mk none none (.store 9 (.tmp 24) (.tmp 173))]) (.seq (.ops [xS 175 (.move (.tmp 6)), xS 176 (.call 15 [.tmp 175, .cst (.g (.int .i64 (.lit 2)))]), xS 174 (.move (.tmp 176)), xS 177 (.extract (.tmp 174) 0), xS 178 (.extract (.tmp 174) 1), xS 25 (.alloc x9z), .mk none none (.store 9 (.tmp 25) (.tmp 177)), xS 26 (.move (.tmp 178))]) (.seq (.ops [xS 179 (.move (.tmp 26)), xS 180 (.not (.tmp 179)), xS 181 (.move (.tmp 180)), xG 182 181 false (.load (some 9) (.tmp 24)), xG 183 181 false (.load (some 9) (.tmp 25)), xG 184 181 false (.call 13 [.tmp 182, .tmp 183]), xG 185 181 false (.not (.tmp 184)), xS 186 (.pick (.tmp 181) (xB true) (.tmp 185))]) (.cond (.tmp 186) (.seq (.ops [xS 4 (.move (xB false))]) .ret) .skip))))) (.ops [xS 187 (.bin .add (.tmp 170) (xN 1)), xS 170 (.move (.tmp 187))]))))))) (.seq (.ops [xS 189 (.move (.tmp 6)), xS 190 (.call 15 [.tmp 189, .cst (.g (.int .i64 (.lit 2)))]), xS 188 (.move (.tmp 190)), xS 191 (.extract (.tmp 188) 0), xS 192 (.extract (.tmp 188) 1), xS 27 (.alloc x9z), .mk none none (.store 9 (.tmp 27) (.tmp 191)), xS 28 (.move (.tmp 192))]) (.seq (.ops [xS 193 (.move (.tmp 28)), xS 194 (.not (.tmp 193)), xS 195 (.move (.tmp 194)), xG 196 195 true (.call 16 []), xS 197 (.pick (.tmp 195) (.tmp 196) (xB false)), xS 4 (.move (.tmp 197))]) .ret)))))))))))))))
theorem c3 : compFj Try.prog [2000, 58, 148] 3 = some x3 := by kernel_rfl
def x4 : XF := XF.mk 113 [.tmp 6] (.seq (.ops [xS 6 (.move (xB false))]) (.seq (.ops [xS 16 (.move (.tmp 0)), xS 17 (.call 9 [.tmp 16, .cst (.g (.int .i64 (.lit 6)))]), xS 18 (.bin .add (xN 1) (.tmp 17)), xS 19 (.move (.tmp 1)), xS 20 (.call 9 [.tmp 19, .cst (.g (.int .i64 (.lit 6)))]), xS 21 (.bin .add (xN 1) (.tmp 20)), xS 22 (.build [.g (.int .i64 (.lit 0)), .g (.int .i64 (.lit 0)), .g (.int .i64 (.lit 0)), .g (.int .i64 (.lit 0)), .g (.int .i64 (.lit 0)), .g (.int .i64 (.lit 0)), .g (.int .i64 (.lit 0)), .g .nil] [(0, 1, .cst (.g (.int .i64 (.lit 2)))), (1, 1, .cst (.g (.int .i64 (.lit 1)))), (2, 1, .cst (.g (.int .i64 (.lit 1)))), (3, 1, .cst (.g (.int .i64 (.lit 1)))), (4, 1, .cst (.g (.int .i64 (.lit 1)))), (5, 1, .tmp 18), (6, 1, .tmp 21)]), xS 7 (.alloc [.g (.int .i64 (.lit 0)), .g (.int .i64 (.lit 0)), .g (.int .i64 (.lit 0)), .g (.int .i64 (.lit 0)), .g (.int .i64 (.lit 0)), .g (.int .i64 (.lit 0)), .g (.int .i64 (.lit 0)), .g .nil]), .mk none none (.store 8 (.tmp 7) (.tmp 22))]) (.seq (.ops [xS 23 (.load (some 8) (.tmp 7)), xS 24 (.call 8 [.tmp 23]), xS 8 (.move (.tmp 24))]) (.seq (.seq (.ops [xS 25 (.move (.tmp 8)), xS 26 (.eq false .ptr (.tmp 25) (.cst (.g .nilp)))]) (.cond (.tmp 26) (.seq (.ops [xS 6 (.move (xB false))]) .ret) .skip)) (.seq (.ops [xS 27 (.build x9z [(0, 1, .cst (.g (.int .i64 (.lit 1)))), (2, 1, .cst (.g (.int .i64 (.lit 1))))]), xS 28 (.build x9z [(0, 1, .cst (.g (.int .i64 (.lit 8)))), (2, 1, .cst (.g (.int .i64 (.lit 1))))]), xS 9 (.alloc x9z), xS 10 (.alloc x9z), .mk none none (.store 9 (.tmp 9) (.tmp 27)), .mk none none (.store 9 (.tmp 10) (.tmp 28))]) (.seq (.seq (.ops [xS 29 (.move (.tmp 2))]) (.cond (.tmp 29) (.ops [xS 30 (.load (some 9) (.tmp 10)), xS 31 (.load (some 9) (.tmp 9)), .mk none none (.store 9 (.tmp 9) (.tmp 30)), .mk none none (.store 9 (.tmp 10) (.tmp 31))]) .skip)) (.seq (.seq (.ops [xS 11 (.move (xN 0))]) (.block 0 (.loop (.seq (.seq (.ops [xS 32 (.move (.tmp 11)), xS 33 (.fieldAddr 5 (.tmp 7)), xS 34 (.load none (.tmp 33)), xS 35 (.cmp .lss (.tmp 32) (.tmp 34))]) (.cond (.tmp 35) .skip (.exit 0))) (.seq (.block 1 (.seq (.drawn 11 (.op 0 true (xS 38 (.move (.tmp 8))) (.op 1 false (xS 39 (.load (some 9) (.tmp 9))) (.op 2 false (xS 40 (.call 10 [.tmp 38, .tmp 39])) (.op 3 false (xS 41 (.cmp .neq (.tmp 40) (xN 0))) (.op 4 false (xS 42 (.move (.tmp 41))) (.op 5 true (xG 43 42 false (.move (.tmp 8))) (.op 6 true (xG 44 42 false (.fieldAddr 0 (.tmp 9))) (.op 7 true (xG 45 42 false (.load none (.tmp 44))) (.op 8 true (xG 46 42 false (.cmp .eql (.tmp 45) (xN 1))) (.op 10 true (xG 48 42 false (.fieldAddr 5 (.tmp 7))) (.op 11 true (xG 49 42 false (.load none (.tmp 48))) (.op 12 true (xG 50 42 false (.bin .sub (.tmp 49) (xN 1))) (.op 13 true (xG 51 42 false (.move (.tmp 11))) (.op 14 true (xG 52 42 false (.bin .sub (.tmp 50) (.tmp 51))) (.op 9 false (xG 47 42 false (.call 17 [.tmp 43, .cst (.g (.int .i64 (.lit 0))), .tmp 46])) (.op 15 false (xG 53 42 false (.cmp .neq (.tmp 47) (.tmp 52))) (.op 16 false (xS 54 (.pick (.tmp 42) (xB true) (.tmp 53))) .nil)))))))))))))))))) (.cond (.tmp 54) (.seq (.ops [xS 6 (.move (xB false))]) .ret) .skip))) (.ops [xS 36 (.move (.tmp 11)), xS 37 (.bin .add (.tmp 36) (xN 1)), xS 11 (.move (.tmp 37))])))))) (.seq (.seq (.drawn 13 (.op 0 true (xS 55 (.move (.tmp 8))) (.op 1 false (xS 56 (.load (some 9) (.tmp 9))) (.op 2 false (xS 57 (.call 10 [.tmp 55, .tmp 56])) (.op 3 false (xS 58 (.cmp .neq (.tmp 57) (xN 5))) (.op 4 false (xS 59 (.move (.tmp 58))) (.op 5 true (xG 60 59 false (.move (.tmp 8))) (.op 6 false (xG 61 59 false (.load (some 9) (.tmp 10))) (.op 7 false (xG 62 59 false (.call 10 [.tmp 60, .tmp 61])) (.op 8 false (xG 63 59 false (.cmp .neq (.tmp 62) (xN 0))) (.op 9 false (xS 64 (.pick (.tmp 59) (xB true) (.tmp 63))) (.op 10 false (xS 65 (.move (.tmp 64))) (.op 11 true (xG 66 65 false (.move (.tmp 8))) (.op 13 true (xG 68 65 false (.fieldAddr 5 (.tmp 7))) (.op 14 true (xG 69 65 false (.load none (.tmp 68))) (.op 12 false (xG 67 65 false (.call 17 [.tmp 66, .cst (.g (.int .i64 (.lit 1))), .cst (.g (.bool (.lit true)))])) (.op 15 false (xG 70 65 false (.cmp .neq (.tmp 67) (.tmp 69))) (.op 16 false (xS 71 (.pick (.tmp 65) (xB true) (.tmp 70))) .nil)))))))))))))))))) (.cond (.tmp 71) (.seq (.ops [xS 6 (.move (xB false))]) .ret) .skip)) (.seq (.ops [xS 72 (.fieldAddr 6 (.tmp 7)), xS 73 (.load none (.tmp 72)), xS 12 (.move (.tmp 73)), xS 13 (.move (xN 0))]) (.seq (.seq (.ops [xS 74 (.move (.tmp 2))]) (.cond (.tmp 74) (.ops [xS 12 (.move (xN 1)), xS 13 (.move (xN 1))]) .skip)) (.seq (.seq (.ops [xS 14 (.move (xN 0))]) (.block 2 (.loop (.seq (.seq (.ops [xS 75 (.move (.tmp 14)), xS 76 (.fieldAddr 5 (.tmp 7)), xS 77 (.load none (.tmp 76)), xS 78 (.cmp .lss (.tmp 75) (.tmp 77))]) (.cond (.tmp 78) .skip (.exit 2))) (.seq (.block 3 (.seq (.ops [xS 15 (.move (xN 0))]) (.seq (.seq (.ops [xS 81 (.move (.tmp 14)), xS 82 (.move (.tmp 12)), xS 83 (.cmp .geq (.tmp 81) (.tmp 82))]) (.cond (.tmp 83) (.ops [xS 15 (.move (xN 5))]) .skip)) (.seq (.ops [xS 84 (.move (.tmp 8)), xS 85 (.move (.tmp 13)), xS 86 (.call 14 [.tmp 84, .tmp 85, .cst (.g (.int .i64 (.lit 0))), .cst (.g (.int .u16 (.lit 0)))]), xS 87 (.move (.tmp 15)), xS 88 (.cmp .neq (.tmp 86) (.tmp 87))]) (.cond (.tmp 88) (.seq (.ops [xS 6 (.move (xB false))]) .ret) .skip))))) (.ops [xS 79 (.move (.tmp 14)), xS 80 (.bin .add (.tmp 79) (xN 1)), xS 14 (.move (.tmp 80))])))))) (.seq (.drawn 26 (.op 0 true (xS 89 (.move (.tmp 8))) (.op 2 true (xS 91 (.fieldAddr 5 (.tmp 7))) (.op 3 true (xS 92 (.load none (.tmp 91))) (.op 4 true (xS 93 (.move (.tmp 12))) (.op 5 true (xS 94 (.bin .sub (.tmp 92) (.tmp 93))) (.op 6 true (xS 95 (.mnmx true (.tmp 94) [.cst (.g (.int .i64 (.lit 0)))])) (.op 7 true (xS 96 (.bin .add (xN 1) (.tmp 95))) (.op 1 false (xS 90 (.call 11 [.tmp 89])) (.op 8 false (xS 97 (.cmp .eql (.tmp 90) (.tmp 96))) (.op 9 false (xS 98 (.move (.tmp 97))) (.op 10 true (xG 99 98 true (.move (.tmp 8))) (.op 11 false (xG 100 98 true (.build x9z [(0, 1, .cst (.g (.int .i64 (.lit 1)))), (1, 1, .cst (.g (.int .i64 (.lit 2))))])) (.op 12 false (xG 101 98 true (.call 10 [.tmp 99, .tmp 100])) (.op 13 false (xG 102 98 true (.cmp .eql (.tmp 101) (xN 1))) (.op 14 false (xS 103 (.pick (.tmp 98) (.tmp 102) (xB false))) (.op 15 false (xS 104 (.move (.tmp 103))) (.op 16 true (xG 105 104 true (.move (.tmp 8))) (.op 17 false (xG 106 104 true (.build x9z [])) (.op 18 false (xG 107 104 true (.call 10 [.tmp 105, .tmp 106])) (.op 19 false (xG 108 104 true (.cmp .eql (.tmp 107) (xN 1))) (.op 20 false (xS 109 (.pick (.tmp 104) (.tmp 108) (xB false))) (.op 21 false (xS 110 (.move (.tmp 109))) (.op 22 false (xG 111 110 true (.call 16 [])) (.op 23 false (xS 112 (.pick (.tmp 110) (.tmp 111) (xB false))) (.op 24 false (xS 6 (.move (.tmp 112))) .nil)))))))))))))))))))))))))) .ret))))))))))))
theorem c4 : compF Try.prog 4 = some x4 := by kernel_rfl
def x5 : XF := XF.mk 153 [.tmp 8] (.seq (.ops [xS 4 (.box (.tmp 0)), xS 5 (.box (.tmp 1)), xS 8 (.move (xB false))]) (.seq (.ops [xS 21 (.load (some 12) (.tmp 4)), xS 22 (.call 18 [.tmp 21]), xS 9 (.alloc [.g (.int .i64 (.lit 0)), .g (.int .i64 (.lit 0)), .g (.int .i64 (.lit 0)), .g (.int .i64 (.lit 0)), .g (.int .i64 (.lit 0)), .g (.int .i64 (.lit 0)), .g (.int .i64 (.lit 0)), .g .nil]), .mk none none (.store 8 (.tmp 9) (.tmp 22))]) (.seq (.ops [xS 23 (.load (some 8) (.tmp 9)), xS 24 (.call 8 [.tmp 23]), xS 10 (.move (.tmp 24))]) (.seq (.seq (.ops [xS 25 (.move (.tmp 10)), xS 26 (.eq false .ptr (.tmp 25) (.cst (.g .nilp)))]) (.cond (.tmp 26) (.seq (.ops [xS 8 (.move (xB false))]) .ret) .skip)) (.seq (.ops [xS 27 (.load (some 9) (.tmp 5)), xS 28 (.call 19 [.tmp 27, .cst (.g (.int .i64 (.lit 0)))]), xS 11 (.alloc x9z), .mk none none (.store 9 (.tmp 11) (.tmp 28))]) (.seq (.join (.drawn 6 (.op 0 true (xS 29 (.fieldAddr 1 (.tmp 11))) (.op 2 true (xS 31 (.fieldAddr 0 (.tmp 9))) (.op 3 true (xS 32 (.load none (.tmp 31))) (.op 5 true (xS 34 (.fieldAddr 2 (.tmp 11))) (.op 7 true (xS 36 (.fieldAddr 0 (.tmp 9))) (.op 8 true (xS 37 (.load none (.tmp 36))) (.alt (.op 1 false (xS 30 (.load none (.tmp 29))) (.alt (.op 4 false (xS 33 (.call 9 [.tmp 30, .tmp 32])) (.op 6 false (xS 35 (.load none (.tmp 34))) (.op 10 true (xS 39 (.fieldAddr 1 (.tmp 11))) (.op 9 false (xS 38 (.call 9 [.tmp 35, .tmp 37])) (.op 11 false (.mk none none (.store 1 (.tmp 39) (.tmp 33))) (.op 12 false (xS 40 (.fieldAddr 2 (.tmp 11))) (.op 13 false (.mk none none (.store 1 (.tmp 40) (.tmp 38))) .nil))))))) (.op 6 false (xS 35 (.load none (.tmp 34))) (.op 4 false (xS 33 (.call 9 [.tmp 30, .tmp 32])) (.op 10 true (xS 39 (.fieldAddr 1 (.tmp 11))) (.op 9 false (xS 38 (.call 9 [.tmp 35, .tmp 37])) (.op 11 false (.mk none none (.store 1 (.tmp 39) (.tmp 33))) (.op 12 false (xS 40 (.fieldAddr 2 (.tmp 11))) (.op 13 false (.mk none none (.store 1 (.tmp 40) (.tmp 38))) .nil))))))))) (.op 6 false (xS 35 (.load none (.tmp 34))) (.op 1 false (xS 30 (.load none (.tmp 29))) (.op 4 false (xS 33 (.call 9 [.tmp 30, .tmp 32])) (.op 10 true (xS 39 (.fieldAddr 1 (.tmp 11))) (.op 9 false (xS 38 (.call 9 [.tmp 35, .tmp 37])) (.op 11 false (.mk none none (.store 1 (.tmp 39) (.tmp 33))) (.op 12 false (xS 40 (.fieldAddr 2 (.tmp 11))) (.op 13 false (.mk none none (.store 1 (.tmp 40) (.tmp 38))) .nil))))))))))))))))) (.seq (.seq (.ops [xS 41 (.move (.tmp 10)), xS 42 (.load (some 9) (.tmp 11)), xS 43 (.call 10 [.tmp 41, .tmp 42]), xS 44 (.cmp .neq (.tmp 43) (xN 0))]) (.cond (.tmp 44) (.seq (.ops [xS 8 (.move (xB false))]) .ret) .skip)) (.seq (.seq (.ops [xS 12 (.move (xN 0))]) (.join (.block 0 (.loop (.seq (.seq (.ops [xS 45 (.move (.tmp 12)), xS 46 (.move (.tmp 2)), xS 47 (.len (.tmp 46)), xS 48 (.cmp .lss (.tmp 45) (.tmp 47)), xS 49 (.move (.tmp 48)), xG 50 49 true (.move (.tmp 12)), xG 51 49 true (.cmp .lss (.tmp 50) (xN 9)), xS 52 (.pick (.tmp 49) (.tmp 51) (xB false))]) (.cond (.tmp 52) .skip (.exit 0))) (.seq (.block 1 (.seq (.ops [xS 55 (.move (.tmp 10)), xS 56 (.move (.tmp 2)), xS 57 (.move (.tmp 12)), xS 58 (.indexAddr none 1 (.tmp 56) (.tmp 57)), xS 59 (.load none (.tmp 58)), xS 60 (.call 9 [.tmp 59, .cst (.g (.int .i64 (.lit 90)))]), xS 61 (.move (.tmp 3)), xS 62 (.bin .or (.tmp 61) (.cst (.g (.int .u16 (.lit 32768))))), xS 63 (.call 14 [.tmp 55, .cst (.g (.int .i64 (.lit 0))), .tmp 60, .tmp 62]), xS 64 (.cmp .neq (.tmp 63) (xN 2)), xS 65 (.move (.tmp 64)), xG 66 65 false (.move (.tmp 10)), xG 67 65 false (.call 11 [.tmp 66]), xG 68 65 false (.cmp .neq (.tmp 67) (xN 1)), xS 69 (.pick (.tmp 65) (xB true) (.tmp 68))]) (.cond (.tmp 69) (.seq (.ops [xS 8 (.move (xB false))]) .ret) .skip))) (.ops [xS 53 (.move (.tmp 12)), xS 54 (.bin .add (.tmp 53) (xN 1)), xS 12 (.move (.tmp 54))]))))))) (.seq (.seq (.ops [xS 70 (.move (.tmp 10)), xS 71 (.call 14 [.tmp 70, .cst (.g (.int .i64 (.lit 0))), .cst (.g (.int .i64 (.lit 0))), .cst (.g (.int .u16 (.lit 0)))]), xS 72 (.cmp .neq (.tmp 71) (xN 0)), xS 73 (.move (.tmp 72)), xG 74 73 false (.move (.tmp 10)), xG 75 73 false (.call 11 [.tmp 74]), xG 76 73 false (.cmp .neq (.tmp 75) (xN 0)), xS 77 (.pick (.tmp 73) (xB true) (.tmp 76)), xS 78 (.move (.tmp 77)), xG 79 78 false (.move (.tmp 10)), xG 80 78 false (.call 14 [.tmp 79, .cst (.g (.int .i64 (.lit 0))), .cst (.g (.int .i64 (.lit 0))), .cst (.g (.int .u16 (.lit 0)))]), xG 81 78 false (.cmp .neq (.tmp 80) (xN 3)), xS 82 (.pick (.tmp 78) (xB true) (.tmp 81))]) (.cond (.tmp 82) (.seq (.ops [xS 8 (.move (xB false))]) .ret) .skip)) (.seq (.ops [xS 84 (.move (.tmp 10)), xS 85 (.fieldAddr 2 (.tmp 11)), xS 86 (.load none (.tmp 85)), xS 87 (.call 20 [.tmp 84, .tmp 86]), xS 83 (.move (.tmp 87)), xS 88 (.extract (.tmp 83) 0), xS 89 (.extract (.tmp 83) 1), xS 13 (.move (.tmp 88)), xS 14 (.move (.tmp 89))]) (.seq (.ops [xS 91 (.move (.tmp 10)), xS 92 (.fieldAddr 2 (.tmp 11)), xS 93 (.load none (.tmp 92)), xS 94 (.call 15 [.tmp 91, .tmp 93]), xS 90 (.move (.tmp 94)), xS 95 (.extract (.tmp 90) 0), xS 96 (.extract (.tmp 90) 1), xS 15 (.alloc x9z), .mk none none (.store 9 (.tmp 15) (.tmp 95)), xS 16 (.move (.tmp 96))]) (.seq (.seq (.ops [xS 97 (.fieldAddr 0 (.tmp 11)), xS 98 (.load none (.tmp 97)), xS 99 (.cmp .gtr (.tmp 98) (xN 6))]) (.join (.cond (.tmp 99) (.seq (.seq (.ops [xS 100 (.move (.tmp 16)), xS 101 (.move (.tmp 100)), xG 102 101 false (.move (.tmp 13)), xG 103 101 false (.cmp .neq (.tmp 102) (xN 0)), xS 104 (.pick (.tmp 101) (xB true) (.tmp 103)), xS 105 (.move (.tmp 104)), xG 106 105 false (.move (.tmp 14)), xG 107 105 false (.cmp .neq (.tmp 106) (xN 1)), xS 108 (.pick (.tmp 105) (xB true) (.tmp 107))]) (.cond (.tmp 108) (.seq (.ops [xS 8 (.move (xB false))]) .ret) .skip)) (.ops [xS 110 (.move (.tmp 10)), xS 111 (.fieldAddr 2 (.tmp 11)), xS 112 (.load none (.tmp 111)), xS 113 (.call 21 [.tmp 110, .tmp 112]), xS 109 (.move (.tmp 113)), xS 114 (.extract (.tmp 109) 0), xS 115 (.extract (.tmp 109) 1), .mk none none (.store 9 (.tmp 15) (.tmp 114)), xS 16 (.move (.tmp 115))])) (.seq (.ops [xS 116 (.move (.tmp 13)), xS 117 (.cmp .neq (.tmp 116) (xN 1)), xS 118 (.move (.tmp 117)), xG 119 118 false (.move (.tmp 14)), xG 120 118 false (.cmp .neq (.tmp 119) (xN 0)), xS 121 (.pick (.tmp 118) (xB true) (.tmp 120))]) (.cond (.tmp 121) (.seq (.ops [xS 8 (.move (xB false))]) .ret) .skip))))) (.seq (.ops [xS 123 (.move (.tmp 10)), xS 124 (.fieldAddr 2 (.tmp 11)), xS 125 (.load none (.tmp 124)), xS 126 (.call 15 [.tmp 123, .tmp 125]), xS 122 (.move (.tmp 126)), xS 127 (.extract (.tmp 122) 0), xS 128 (.extract (.tmp 122) 1), xS 17 (.alloc x9z), .mk none none (.store 9 (.tmp 17) (.tmp 127)), xS 18 (.move (.tmp 128))]) (.seq (.ops [xS 130 (.move (.tmp 10)), xS 131 (.fieldAddr 2 (.tmp 11)), xS 132 (.load none (.tmp 131)), xS 133 (.call 21 [.tmp 130, .tmp 132]), xS 129 (.move (.tmp 133)), xS 134 (.extract (.tmp 129) 0), xS 135 (.extract (.tmp 129) 1), xS 19 (.alloc x9z), .mk none none (.store 9 (.tmp 19) (.tmp 134)), xS 20 (.move (.tmp 135))]) (.seq (.ops [xS 136 (.move (.tmp 16)), xS 137 (.move (.tmp 136)), xG 138 137 true (.load (some 9) (.tmp 11)), xG 139 137 true (.load (some 9) (.tmp 15)), xG 140 137 true (.call 13 [.tmp 138, .tmp 139]), xS 141 (.pick (.tmp 137) (.tmp 140) (xB false)), xS 142 (.move (.tmp 141)), xG 143 142 true (.move (.tmp 18)), xG 144 142 true (.not (.tmp 143)), xS 145 (.pick (.tmp 142) (.tmp 144) (xB false)), xS 146 (.move (.tmp 145)), xG 147 146 true (.move (.tmp 20)), xG 148 146 true (.not (.tmp 147)), xS 149 (.pick (.tmp 146) (.tmp 148) (xB false)), xS 150 (.move (.tmp 149)), xG 151 150 true (.call 16 []), xS 152 (.pick (.tmp 150) (.tmp 151) (xB false)), xS 8 (.move (.tmp 152))]) .ret)))))))))))))))
theorem c5 : compFj Try.prog [1006, 2000, 99] 5 = some x5 := by kernel_rfl
def x7 : XF := XF.mk 166 [.tmp 4] (.seq (.ops [xS 2 (.box (.tmp 0)), xS 4 (.move (xB false))]) (.seq (.ops [xS 20 (.load (some 12) (.tmp 2)), xS 21 (.call 18 [.tmp 20]), xS 5 (.alloc [.g (.int .i64 (.lit 0)), .g (.int .i64 (.lit 0)), .g (.int .i64 (.lit 0)), .g (.int .i64 (.lit 0)), .g (.int .i64 (.lit 0)), .g (.int .i64 (.lit 0)), .g (.int .i64 (.lit 0)), .g .nil]), .mk none none (.store 8 (.tmp 5) (.tmp 21))]) (.seq (.ops [xS 22 (.load (some 8) (.tmp 5)), xS 23 (.call 8 [.tmp 22]), xS 6 (.move (.tmp 23))]) (.seq (.seq (.ops [xS 24 (.move (.tmp 6)), xS 25 (.eq false .ptr (.tmp 24) (.cst (.g .nilp)))]) (.cond (.tmp 25) (.seq (.ops [xS 4 (.move (xB false))]) .ret) .skip)) (.seq (.ops [xS 7 (.move (xN 0)), xS 8 (.move (xN 0))]) (.seq (.seq (.ops [xS 9 (.move (xN 0))]) (.block 0 (.loop (.seq (.seq (.ops [xS 26 (.move (.tmp 9)), xS 27 (.move (.tmp 1)), xS 28 (.len (.tmp 27)), xS 29 (.cmp .lss (.tmp 26) (.tmp 28)), xS 30 (.move (.tmp 29)), xG 31 30 true (.move (.tmp 9)), xG 32 30 true (.cmp .lss (.tmp 31) (xN 40)), xS 33 (.pick (.tmp 30) (.tmp 32) (xB false))]) (.cond (.tmp 33) .skip (.exit 0))) (.seq (.block 1 (.seq (.ops [xS 36 (.move (.tmp 1)), xS 37 (.move (.tmp 9)), xS 38 (.indexAddr none 14 (.tmp 36) (.tmp 37)), xS 39 (.load (some 14) (.tmp 38)), xS 10 (.alloc [.g (.int .i64 (.lit 0)), .g (.int .i64 (.lit 0)), .g (.int .i64 (.lit 0)), .g (.int .u16 (.lit 0)), .g (.int .i64 (.lit 0)), .g (.int .i64 (.lit 0)), .g (.int .i64 (.lit 0)), .g (.int .i64 (.lit 0)), .g (.int .i64 (.lit 0)), .g (.int .i64 (.lit 0)), .g (.int .i64 (.lit 0)), .g (.bool (.lit false)), .g .nil, .g (.int .i64 (.lit 0))]), .mk none none (.store 14 (.tmp 10) (.tmp 39))]) (.seq (.seq (.ops [xS 40 (.fieldAddr 0 (.tmp 10)), xS 41 (.load none (.tmp 40)), xS 42 (.call 9 [.tmp 41, .cst (.g (.int .i64 (.lit 5)))])]) (.join (.block 2 (.seq (.seq (.ops [xS 70 (.cmp .eql (.tmp 42) (xN 0)), xS 69 (.move (.tmp 70))]) (.join (.cond (.tmp 69) .skip (.ops [xS 71 (.cmp .eql (.tmp 42) (xN 1)), xS 69 (.move (.tmp 71))])))) (.join (.cond (.tmp 69) (.seq (.ops [xS 72 (.fieldAddr 4 (.tmp 10)), xS 73 (.load (some 9) (.tmp 72)), xS 74 (.call 19 [.tmp 73, .cst (.g (.int .i64 (.lit 0)))]), xS 11 (.alloc x9z), .mk none none (.store 9 (.tmp 11) (.tmp 74))]) (.seq (.join (.drawn 20 (.op 0 true (xS 75 (.fieldAddr 1 (.tmp 11))) (.op 2 true (xS 77 (.fieldAddr 0 (.tmp 5))) (.op 3 true (xS 78 (.load none (.tmp 77))) (.op 5 true (xS 80 (.fieldAddr 2 (.tmp 11))) (.op 7 true (xS 82 (.fieldAddr 0 (.tmp 5))) (.op 8 true (xS 83 (.load none (.tmp 82))) (.alt (.op 1 false (xS 76 (.load none (.tmp 75))) (.alt (.op 4 false (xS 79 (.call 9 [.tmp 76, .tmp 78])) (.op 6 false (xS 81 (.load none (.tmp 80))) (.op 10 true (xS 85 (.fieldAddr 1 (.tmp 11))) (.op 9 false (xS 84 (.call 9 [.tmp 81, .tmp 83])) (.op 11 false (.mk none none (.store 1 (.tmp 85) (.tmp 79))) (.op 12 false (xS 86 (.fieldAddr 2 (.tmp 11))) (.op 13 false (.mk none none (.store 1 (.tmp 86) (.tmp 84))) .nil))))))) (.op 6 false (xS 81 (.load none (.tmp 80))) (.op 4 false (xS 79 (.call 9 [.tmp 76, .tmp 78])) (.op 10 true (xS 85 (.fieldAddr 1 (.tmp 11))) (.op 9 false (xS 84 (.call 9 [.tmp 81, .tmp 83])) (.op 11 false (.mk none none (.store 1 (.tmp 85) (.tmp 79))) (.op 12 false (xS 86 (.fieldAddr 2 (.tmp 11))) (.op 13 false (.mk none none (.store 1 (.tmp 86) (.tmp 84))) .nil))))))))) (.op 6 false (xS 81 (.load none (.tmp 80))) (.op 1 false (xS 76 (.load none (.tmp 75))) (.op 4 false (xS 79 (.call 9 [.tmp 76, .tmp 78])) (.op 10 true (xS 85 (.fieldAddr 1 (.tmp 11))) (.op 9 false (xS 84 (.call 9 [.tmp 81, .tmp 83])) (.op 11 false (.mk none none (.store 1 (.tmp 85) (.tmp 79))) (.op 12 false (xS 86 (.fieldAddr 2 (.tmp 11))) (.op 13 false (.mk none none (.store 1 (.tmp 86) (.tmp 84))) .nil))))))))))))))))) (.seq (.ops [xS 87 (.move (.tmp 6)), xS 88 (.load (some 9) (.tmp 11)), xS 89 (.call 10 [.tmp 87, .tmp 88]), xS 90 (.cmp .eql (.tmp 89) (xN 0))]) (.cond (.tmp 90) (.ops [xS 91 (.move (.tmp 7)), xS 92 (.bin .add (.tmp 91) (xN 1)), xS 7 (.move (.tmp 92))]) .skip)))) (.seq (.seq (.ops [xS 94 (.cmp .eql (.tmp 42) (xN 2)), xS 93 (.move (.tmp 94))]) (.join (.cond (.tmp 93) .skip (.ops [xS 95 (.cmp .eql (.tmp 42) (xN 3)), xS 93 (.move (.tmp 95))])))) (.join (.cond (.tmp 93) (.drawn 25 (.op 0 true (xS 96 (.move (.tmp 6))) (.op 1 true (xS 97 (.fieldAddr 1 (.tmp 10))) (.op 2 true (xS 98 (.load none (.tmp 97))) (.op 3 true (xS 99 (.move (.tmp 6))) (.op 6 true (xS 102 (.fieldAddr 2 (.tmp 10))) (.op 7 true (xS 103 (.load none (.tmp 102))) (.op 8 true (xS 104 (.fieldAddr 3 (.tmp 10))) (.op 9 true (xS 105 (.load none (.tmp 104))) (.op 10 true (xS 106 (.fieldAddr 13 (.tmp 10))) (.op 11 true (xS 107 (.load none (.tmp 106))) (.op 4 false (xS 100 (.call 11 [.tmp 99])) (.op 5 false (xS 101 (.call 9 [.tmp 98, .tmp 100])) (.op 12 false (xS 108 (.call 9 [.tmp 107, .cst (.g (.int .i64 (.lit 2)))])) (.op 13 false (xS 109 (.bin .mul (.tmp 108) (xN 65535))) (.op 14 false (xS 110 (.conv .u16 (.tmp 109))) (.op 15 false (xS 111 (.bin .and (.tmp 105) (.tmp 110))) (.op 16 false (xS 112 (.call 14 [.tmp 96, .tmp 101, .tmp 103, .tmp 111])) .nil)))))))))))))))))) (.seq (.seq (.ops [xS 44 (.move (.tmp 6)), xS 45 (.fieldAddr 1 (.tmp 10)), xS 46 (.load none (.tmp 45)), xS 47 (.fieldAddr 0 (.tmp 5)), xS 48 (.load none (.tmp 47)), xS 49 (.call 9 [.tmp 46, .tmp 48]), xS 50 (.call 15 [.tmp 44, .tmp 49]), xS 43 (.move (.tmp 50)), xS 51 (.extract (.tmp 43) 0), xS 52 (.extract (.tmp 43) 1), xS 12 (.alloc x9z), .mk none none (.store 9 (.tmp 12) (.tmp 51)), xS 13 (.move (.tmp 52))]) (.seq (.ops [xS 53 (.move (.tmp 13))]) (.join (.cond (.tmp 53) (.ops [xS 54 (.move (.tmp 8)), xS 55 (.bin .add (.tmp 54) (xN 1)), xS 8 (.move (.tmp 55))]) .skip)))) (.seq (.ops [xS 57 (.move (.tmp 6)), xS 58 (.fieldAddr 1 (.tmp 10)), xS 59 (.load none (.tmp 58)), xS 60 (.fieldAddr 0 (.tmp 5)), xS 61 (.load none (.tmp 60)), xS 62 (.call 9 [.tmp 59, .tmp 61]), xS 63 (.call 21 [.tmp 57, .tmp 62]), xS 56 (.move (.tmp 63)), xS 64 (.extract (.tmp 56) 0), xS 65 (.extract (.tmp 56) 1), xS 14 (.alloc x9z), .mk none none (.store 9 (.tmp 14) (.tmp 64)), xS 15 (.move (.tmp 65))]) (.seq (.ops [xS 66 (.move (.tmp 15))]) (.cond (.tmp 66) (.ops [xS 67 (.move (.tmp 8)), xS 68 (.bin .add (.tmp 67) (xN 1)), xS 8 (.move (.tmp 68))]) .skip))))))))))))) (.seq (.ops [xS 113 (.move (.tmp 6)), xS 114 (.call 11 [.tmp 113]), xS 16 (.move (.tmp 114))]) (.seq (.seq (.ops [xS 115 (.move (.tmp 16)), xS 116 (.fieldAddr 0 (.tmp 5)), xS 117 (.load none (.tmp 116)), xS 118 (.bin .mul (xN 2) (.tmp 117)), xS 119 (.fieldAddr 5 (.tmp 5)), xS 120 (.load none (.tmp 119)), xS 121 (.bin .mul (.tmp 118) (.tmp 120)), xS 122 (.cmp .gtr (.tmp 115) (.tmp 121))]) (.cond (.tmp 122) (.seq (.ops [xS 4 (.move (xB false))]) .ret) .skip)) (.seq (.seq (.ops [xS 17 (.move (xN 0))]) (.block 3 (.loop (.seq (.seq (.ops [xS 123 (.move (.tmp 17)), xS 124 (.fieldAddr 0 (.tmp 5)), xS 125 (.load none (.tmp 124)), xS 126 (.cmp .lss (.tmp 123) (.tmp 125))]) (.cond (.tmp 126) .skip (.exit 3))) (.seq (.block 4 (.seq (.ops [xS 130 (.move (.tmp 6)), xS 131 (.move (.tmp 17)), xS 132 (.call 20 [.tmp 130, .tmp 131]), xS 129 (.move (.tmp 132)), xS 133 (.extract (.tmp 129) 0), xS 134 (.extract (.tmp 129) 1), xS 18 (.move (.tmp 133)), xS 19 (.move (.tmp 134))]) (.seq (.seq (.ops [xS 135 (.move (.tmp 18)), xS 136 (.fieldAddr 6 (.tmp 5)), xS 137 (.load none (.tmp 136)), xS 138 (.cmp .gtr (.tmp 135) (.tmp 137)), xS 139 (.move (.tmp 138)), xG 140 139 false (.move (.tmp 19)), xG 141 139 false (.cmp .gtr (.tmp 140) (xN 1)), xS 142 (.pick (.tmp 139) (xB true) (.tmp 141)), xS 143 (.move (.tmp 142)), xG 144 143 false (.move (.tmp 6)), xG 145 143 false (.move (.tmp 17)), xG 146 143 false (.call 17 [.tmp 144, .tmp 145, .cst (.g (.bool (.lit true)))]), xG 147 143 false (.cmp .lss (.tmp 146) (xN 0)), xS 148 (.pick (.tmp 143) (xB true) (.tmp 147)), xS 149 (.move (.tmp 148)), xG 150 149 false (.move (.tmp 6)), xG 151 149 false (.move (.tmp 17)), xG 152 149 false (.call 17 [.tmp 150, .tmp 151, .cst (.g (.bool (.lit false)))]), xG 153 149 false (.cmp .lss (.tmp 152) (xN 0)), xS 154 (.pick (.tmp 149) (xB true) (.tmp 153))]) (.cond (.tmp 154) (.seq (.ops [xS 4 (.move (xB false))]) .ret) .skip)) (.ops [xS 155 (.move (.tmp 16)), xS 156 (.move (.tmp 18)), xS 157 (.move (.tmp 19)), xS 158 (.bin .add (.tmp 156) (.tmp 157)), xS 159 (.bin .add (.tmp 155) (.tmp 158)), xS 16 (.move (.tmp 159))])))) (.ops [xS 127 (.move (.tmp 17)), xS 128 (.bin .add (.tmp 127) (xN 1)), xS 17 (.move (.tmp 128))])))))) (.seq (.ops [xS 160 (.move (.tmp 16)), xS 161 (.move (.tmp 8)), xS 162 (.bin .add (.tmp 160) (.tmp 161)), xS 163 (.move (.tmp 7)), xS 164 (.cmp .neq (.tmp 162) (.tmp 163))]) (.cond (.tmp 164) (.seq (.ops [xS 4 (.move (xB false))]) .ret) .skip)))))))) (.ops [xS 34 (.move (.tmp 9)), xS 35 (.bin .add (.tmp 34) (xN 1)), xS 9 (.move (.tmp 35))])))))) (.seq (.ops [xS 165 (.call 16 []), xS 4 (.move (.tmp 165))]) .ret)))))))
theorem c7 : compFj Try.prog [1020, 53, 2002, 69, 93] 7 = some x7 := by kernel_rfl
def x8 : XF := XF.mk 34 [.tmp 2] (.seq (.ops [xS 1 (.box (.tmp 0)), xS 2 (.move (.cst (.g .nilp)))]) (.seq (.ops [xS 4 (.build [.g .nil] []), xS 5 (.box (.tmp 4)), xS 3 (.move (.tmp 5))]) (.seq (.seq (.ops [xS 6 (.fieldAddr 0 (.tmp 1)), xS 7 (.load none (.tmp 6)), xS 8 (.move (xN 0))]) (.block 0 (.loop (.seq (.ops [xS 9 (.cmp .lss (.tmp 8) (.tmp 7))]) (.seq (.cond (.tmp 9) .skip (.exit 0)) (.seq (.block 1 (.drawn 4 (.op 0 true (xS 10 (.move (.tmp 3))) (.op 1 true (xS 11 (.move (.tmp 3))) (.op 2 true (xS 12 (.nilCheck (.tmp 11))) (.op 3 true (xS 13 (.fieldAddr 0 (.tmp 12))) (.op 5 true (xS 15 (.fieldAddr 5 (.tmp 1))) (.op 6 true (xS 16 (.load none (.tmp 15))) (.op 8 true (xS 18 (.fieldAddr 6 (.tmp 1))) (.op 9 true (xS 19 (.load none (.tmp 18))) (.op 12 true (xS 22 (.fieldAddr 5 (.tmp 1))) (.op 13 true (xS 23 (.load none (.tmp 22))) (.alt (.op 4 false (xS 14 (.load none (.tmp 13))) (.op 7 false (xS 17 (.call 28 [.tmp 16])) (.op 10 false (xS 20 (.call 29 [.tmp 19])) (.op 11 true (xS 21 (.build [.g .nilp, .g .nilp] [(0, 1, .tmp 17), (1, 1, .tmp 20)])) (.op 14 false (xS 24 (.call 28 [.tmp 23])) (.op 15 false (xS 25 (.call 29 [.cst (.g (.int .i64 (.lit 1)))])) (.op 16 false (xS 26 (.build [.g .nilp, .g .nilp] [(0, 1, .tmp 24), (1, 1, .tmp 25)])) (.op 17 false (xS 27 (.build [.g .nilp, .g .nilp, .g .nilp, .g .nilp] [(0, 2, .tmp 21), (2, 2, .tmp 26)])) (.op 18 false (xS 28 (.buildSlice 4 [.g .nilp, .g .nilp, .g .nilp, .g .nilp] 1 [(0, .tmp 27)])) (.op 19 false (xS 29 (.append 4 32 [.g .nilp, .g .nilp, .g .nilp, .g .nilp] (.tmp 14) (.tmp 28))) (.op 20 false (xS 30 (.nilCheck (.tmp 10))) (.op 21 false (xS 31 (.fieldAddr 0 (.tmp 30))) (.op 22 false (.mk none none (.store 1 (.tmp 31) (.tmp 29))) .nil))))))))))))) (.op 7 false (xS 17 (.call 28 [.tmp 16])) (.alt (.op 4 false (xS 14 (.load none (.tmp 13))) (.op 10 false (xS 20 (.call 29 [.tmp 19])) (.op 11 true (xS 21 (.build [.g .nilp, .g .nilp] [(0, 1, .tmp 17), (1, 1, .tmp 20)])) (.op 14 false (xS 24 (.call 28 [.tmp 23])) (.op 15 false (xS 25 (.call 29 [.cst (.g (.int .i64 (.lit 1)))])) (.op 16 false (xS 26 (.build [.g .nilp, .g .nilp] [(0, 1, .tmp 24), (1, 1, .tmp 25)])) (.op 17 false (xS 27 (.build [.g .nilp, .g .nilp, .g .nilp, .g .nilp] [(0, 2, .tmp 21), (2, 2, .tmp 26)])) (.op 18 false (xS 28 (.buildSlice 4 [.g .nilp, .g .nilp, .g .nilp, .g .nilp] 1 [(0, .tmp 27)])) (.op 19 false (xS 29 (.append 4 32 [.g .nilp, .g .nilp, .g .nilp, .g .nilp] (.tmp 14) (.tmp 28))) (.op 20 false (xS 30 (.nilCheck (.tmp 10))) (.op 21 false (xS 31 (.fieldAddr 0 (.tmp 30))) (.op 22 false (.mk none none (.store 1 (.tmp 31) (.tmp 29))) .nil)))))))))))) (.op 10 false (xS 20 (.call 29 [.tmp 19])) (.op 11 true (xS 21 (.build [.g .nilp, .g .nilp] [(0, 1, .tmp 17), (1, 1, .tmp 20)])) (.alt (.op 4 false (xS 14 (.load none (.tmp 13))) (.op 14 false (xS 24 (.call 28 [.tmp 23])) (.op 15 false (xS 25 (.call 29 [.cst (.g (.int .i64 (.lit 1)))])) (.op 16 false (xS 26 (.build [.g .nilp, .g .nilp] [(0, 1, .tmp 24), (1, 1, .tmp 25)])) (.op 17 false (xS 27 (.build [.g .nilp, .g .nilp, .g .nilp, .g .nilp] [(0, 2, .tmp 21), (2, 2, .tmp 26)])) (.op 18 false (xS 28 (.buildSlice 4 [.g .nilp, .g .nilp, .g .nilp, .g .nilp] 1 [(0, .tmp 27)])) (.op 19 false (xS 29 (.append 4 32 [.g .nilp, .g .nilp, .g .nilp, .g .nilp] (.tmp 14) (.tmp 28))) (.op 20 false (xS 30 (.nilCheck (.tmp 10))) (.op 21 false (xS 31 (.fieldAddr 0 (.tmp 30))) (.op 22 false (.mk none none (.store 1 (.tmp 31) (.tmp 29))) .nil)))))))))) (.op 14 false (xS 24 (.call 28 [.tmp 23])) (.alt (.op 4 false (xS 14 (.load none (.tmp 13))) (.op 15 false (xS 25 (.call 29 [.cst (.g (.int .i64 (.lit 1)))])) (.op 16 false (xS 26 (.build [.g .nilp, .g .nilp] [(0, 1, .tmp 24), (1, 1, .tmp 25)])) (.op 17 false (xS 27 (.build [.g .nilp, .g .nilp, .g .nilp, .g .nilp] [(0, 2, .tmp 21), (2, 2, .tmp 26)])) (.op 18 false (xS 28 (.buildSlice 4 [.g .nilp, .g .nilp, .g .nilp, .g .nilp] 1 [(0, .tmp 27)])) (.op 19 false (xS 29 (.append 4 32 [.g .nilp, .g .nilp, .g .nilp, .g .nilp] (.tmp 14) (.tmp 28))) (.op 20 false (xS 30 (.nilCheck (.tmp 10))) (.op 21 false (xS 31 (.fieldAddr 0 (.tmp 30))) (.op 22 false (.mk none none (.store 1 (.tmp 31) (.tmp 29))) .nil))))))))) (.op 15 false (xS 25 (.call 29 [.cst (.g (.int .i64 (.lit 1)))])) (.op 16 true (xS 26 (.build [.g .nilp, .g .nilp] [(0, 1, .tmp 24), (1, 1, .tmp 25)])) (.op 17 true (xS 27 (.build [.g .nilp, .g .nilp, .g .nilp, .g .nilp] [(0, 2, .tmp 21), (2, 2, .tmp 26)])) (.alt (.op 4 false (xS 14 (.load none (.tmp 13))) (.op 18 false (xS 28 (.buildSlice 4 [.g .nilp, .g .nilp, .g .nilp, .g .nilp] 1 [(0, .tmp 27)])) (.op 19 false (xS 29 (.append 4 32 [.g .nilp, .g .nilp, .g .nilp, .g .nilp] (.tmp 14) (.tmp 28))) (.op 20 false (xS 30 (.nilCheck (.tmp 10))) (.op 21 false (xS 31 (.fieldAddr 0 (.tmp 30))) (.op 22 false (.mk none none (.store 1 (.tmp 31) (.tmp 29))) .nil)))))) (.op 18 false (xS 28 (.buildSlice 4 [.g .nilp, .g .nilp, .g .nilp, .g .nilp] 1 [(0, .tmp 27)])) (.op 4 false (xS 14 (.load none (.tmp 13))) (.op 19 false (xS 29 (.append 4 32 [.g .nilp, .g .nilp, .g .nilp, .g .nilp] (.tmp 14) (.tmp 28))) (.op 20 false (xS 30 (.nilCheck (.tmp 10))) (.op 21 false (xS 31 (.fieldAddr 0 (.tmp 30))) (.op 22 false (.mk none none (.store 1 (.tmp 31) (.tmp 29))) .nil)))))))))))))))))))))))))))))) (.ops [xS 32 (.bin .add (.tmp 8) (xN 1)), xS 8 (.move (.tmp 32))]))))))) (.seq (.ops [xS 33 (.move (.tmp 3)), xS 2 (.move (.tmp 33))]) .ret))))
theorem c8 : compF Try.prog 8 = some x8 := by kernel_rfl
def x9 : XF := XF.mk 17 [.tmp 4] (.seq (.ops [xS 4 (.move (xN 0))]) (.seq (.seq (.ops [xS 6 (.move (.tmp 1)), xS 7 (.cmp .lss (.tmp 6) (xN 1))]) (.cond (.tmp 7) (.seq (.ops [xS 4 (.move (xN 0))]) .ret) .skip)) (.seq (.ops [xS 8 (.move (.tmp 0)), xS 9 (.move (.tmp 1)), xS 10 (.div .rem (.tmp 8) (.tmp 9)), xS 5 (.move (.tmp 10))]) (.seq (.seq (.ops [xS 11 (.move (.tmp 5)), xS 12 (.cmp .lss (.tmp 11) (xN 0))]) (.cond (.tmp 12) (.ops [xS 13 (.move (.tmp 5)), xS 14 (.move (.tmp 1)), xS 15 (.bin .add (.tmp 13) (.tmp 14)), xS 5 (.move (.tmp 15))]) .skip)) (.seq (.ops [xS 16 (.move (.tmp 5)), xS 4 (.move (.tmp 16))]) .ret)))))
theorem c9 : compF Try.prog 9 = some x9 := by kernel_rfl
def x10 : XF := XF.mk 37 [.tmp 4] (.seq (.ops [xS 3 (.box (.tmp 1)), xS 4 (.move (xN 0))]) (.seq (.seq (.ops [xS 5 (.load (some 9) (.tmp 3)), xS 6 (.call 30 [.tmp 5]), xS 7 (.cmp .neq (.tmp 6) (xN 0)), xS 8 (.move (.tmp 7)), xG 9 8 false (.move (.tmp 0)), xG 10 8 false (.fieldAddr 1 (.tmp 3)), xG 11 8 false (.load none (.tmp 10)), xG 12 8 false (.call 31 [.tmp 9, .tmp 11]), xG 13 8 false (.not (.tmp 12)), xS 14 (.pick (.tmp 8) (xB true) (.tmp 13)), xS 15 (.move (.tmp 14)), xG 16 15 false (.move (.tmp 0)), xG 17 15 false (.fieldAddr 2 (.tmp 3)), xG 18 15 false (.load none (.tmp 17)), xG 19 15 false (.call 31 [.tmp 16, .tmp 18]), xG 20 15 false (.not (.tmp 19)), xS 21 (.pick (.tmp 15) (xB true) (.tmp 20))]) (.cond (.tmp 21) (.seq (.ops [xS 4 (.move (xN 1))]) .ret) .skip)) (.seq (.drawn 3 (.op 0 true (xS 22 (.move (.tmp 0))) (.op 1 true (xS 23 (.nilCheck (.tmp 22))) (.op 2 true (xS 24 (.fieldAddr 0 (.tmp 23))) (.op 3 true (xS 25 (.load none (.tmp 24))) (.op 4 true (xS 26 (.fieldAddr 1 (.tmp 3))) (.op 5 true (xS 27 (.load none (.tmp 26))) (.op 6 true (xS 28 (.indexAddr none 4 (.tmp 25) (.tmp 27))) (.op 7 true (xS 29 (.load (some 4) (.tmp 28))) (.op 8 true (xS 30 (.fieldAddr 0 (.tmp 3))) (.op 9 true (xS 31 (.load none (.tmp 30))) (.op 13 true (xS 35 (.load (some 9) (.tmp 3))) (.op 10 false (xS 32 (.call 33 [.tmp 31])) (.op 11 false (xS 33 (.call 32 [.tmp 29, .tmp 32])) (.op 12 false (xS 34 (.field 0 none (.tmp 33))) (.op 14 false (xS 36 (.call 34 [.tmp 34, .tmp 35])) (.op 15 false (xS 4 (.move (.tmp 36))) .nil))))))))))))))))) .ret)))
theorem c10 : compF Try.prog 10 = some x10 := by kernel_rfl
def x11 : XF := XF.mk 20 [.tmp 2] (.seq (.ops [xS 2 (.move (xN 0))]) (.seq (.ops [xS 3 (.move (xN 0))]) (.seq (.seq (.ops [xS 6 (.move (.tmp 0)), xS 7 (.call 35 [.tmp 6]), xS 8 (.len (.tmp 7)), xS 9 (.move (xN 0))]) (.block 0 (.loop (.seq (.ops [xS 10 (.cmp .lss (.tmp 9) (.tmp 8))]) (.seq (.cond (.tmp 10) .skip (.exit 0)) (.seq (.block 1 (.seq (.ops [xS 11 (.indexAddr none 2 (.tmp 7) (.tmp 9)), xS 12 (.load (some 2) (.tmp 11)), xS 5 (.alloc [.g .nilp, .g .nilp]), .mk none none (.store 2 (.tmp 5) (.tmp 12))]) (.ops [xS 13 (.move (.tmp 3)), xS 14 (.fieldAddr 0 (.tmp 5)), xS 15 (.load none (.tmp 14)), xS 16 (.call 36 [.tmp 15]), xS 17 (.bin .add (.tmp 13) (.tmp 16)), xS 3 (.move (.tmp 17))]))) (.ops [xS 18 (.bin .add (.tmp 9) (xN 1)), xS 9 (.move (.tmp 18))]))))))) (.seq (.ops [xS 19 (.move (.tmp 3)), xS 2 (.move (.tmp 19))]) .ret))))
theorem c11 : compF Try.prog 11 = some x11 := by kernel_rfl
def x12 : XF := XF.mk 29 [.cell 4 (some 9), .tmp 5] (.seq (.ops [xS 4 (.alloc x9z), xS 5 (.move (xB false))]) (.seq (.ops [xS 10 (.move (.tmp 0)), xS 11 (.move (.tmp 1)), xS 12 (.call 37 [.tmp 10, .tmp 11]), xS 9 (.move (.tmp 12)), xS 13 (.extract (.tmp 9) 0), xS 14 (.extract (.tmp 9) 1), xS 15 (.extract (.tmp 9) 2), xS 6 (.alloc [.g .nilp, .g .nilp]), .mk none none (.store 2 (.tmp 6) (.tmp 13)), xS 7 (.move (.tmp 14)), xS 8 (.move (.tmp 15))]) (.seq (.seq (.ops [xS 16 (.move (.tmp 8)), xS 17 (.not (.tmp 16)), xS 18 (.move (.tmp 17)), xG 19 18 false (.move (.tmp 1)), xG 20 18 false (.cmp .lss (.tmp 19) (xN 0)), xS 21 (.pick (.tmp 18) (xB true) (.tmp 20))]) (.cond (.tmp 21) (.seq (.ops [xS 22 (.build x9z []), .mk none none (.store 9 (.tmp 4) (.tmp 22)), xS 5 (.move (xB false))]) .ret) .skip)) (.seq (.ops [xS 23 (.fieldAddr 0 (.tmp 6)), xS 24 (.load none (.tmp 23)), xS 25 (.move (.tmp 7)), xS 26 (.call 38 [.tmp 24, .tmp 25]), xS 27 (.extract (.tmp 26) 0), xS 28 (.extract (.tmp 26) 1), .mk none none (.store 9 (.tmp 4) (.tmp 27)), xS 5 (.move (.tmp 28))]) .ret))))
theorem c12 : compF Try.prog 12 = some x12 := by kernel_rfl
def x14 : XF := XF.mk 63 [.tmp 8] (.seq (.ops [xS 8 (.move (xN 0))]) (.seq (.ops [xS 17 (.move (.tmp 0)), xS 18 (.move (.tmp 1)), xS 19 (.call 12 [.tmp 17, .tmp 18]), xS 16 (.move (.tmp 19)), xS 20 (.extract (.tmp 16) 0), xS 21 (.extract (.tmp 16) 1), xS 9 (.alloc x9z), .mk none none (.store 9 (.tmp 9) (.tmp 20)), xS 10 (.move (.tmp 21))]) (.seq (.seq (.ops [xS 22 (.move (.tmp 10)), xS 23 (.not (.tmp 22))]) (.cond (.tmp 23) (.seq (.ops [xS 8 (.move (xN 3))]) .ret) .skip)) (.seq (.ops [xS 25 (.load (some 9) (.tmp 9)), xS 26 (.move (.tmp 2)), xS 27 (.move (.tmp 3)), xS 28 (.call 39 [.tmp 25, .tmp 26, .tmp 27]), xS 24 (.move (.tmp 28)), xS 29 (.extract (.tmp 24) 0), xS 30 (.extract (.tmp 24) 1), .mk none none (.store 9 (.tmp 9) (.tmp 29)), xS 11 (.move (.tmp 30))]) (.seq (.seq (.ops [xS 31 (.move (.tmp 11)), xS 32 (.cmp .neq (.tmp 31) (xN 0))]) (.cond (.tmp 32) (.seq (.ops [xS 33 (.move (.tmp 11)), xS 8 (.move (.tmp 33))]) .ret) .skip)) (.seq (.seq (.drawn 7 (.op 0 true (xS 34 (.move (.tmp 0))) (.op 1 true (xS 35 (.nilCheck (.tmp 34))) (.op 2 true (xS 36 (.fieldAddr 0 (.tmp 35))) (.op 3 true (xS 37 (.load none (.tmp 36))) (.op 4 true (xS 38 (.fieldAddr 2 (.tmp 9))) (.op 5 true (xS 39 (.load none (.tmp 38))) (.op 6 true (xS 40 (.indexAddr none 4 (.tmp 37) (.tmp 39))) (.op 7 true (xS 41 (.load (some 4) (.tmp 40))) (.op 8 true (xS 42 (.fieldAddr 0 (.tmp 9))) (.op 9 true (xS 43 (.load none (.tmp 42))) (.op 13 true (xS 47 (.load (some 9) (.tmp 9))) (.op 10 false (xS 44 (.call 33 [.tmp 43])) (.op 11 false (xS 45 (.call 32 [.tmp 41, .tmp 44])) (.op 12 false (xS 46 (.field 1 none (.tmp 45))) (.op 14 false (xS 48 (.call 40 [.tmp 46, .tmp 47])) (.op 15 false (xS 12 (.move (.tmp 48))) .nil))))))))))))))))) (.seq (.ops [xS 49 (.move (.tmp 12)), xS 50 (.cmp .neq (.tmp 49) (xN 0))]) (.cond (.tmp 50) (.seq (.ops [xS 51 (.move (.tmp 12)), xS 8 (.move (.tmp 51))]) .ret) .skip))) (.seq (.ops [xS 53 (.move (.tmp 0)), xS 54 (.move (.tmp 1)), xS 55 (.call 37 [.tmp 53, .tmp 54]), xS 52 (.move (.tmp 55)), xS 56 (.extract (.tmp 52) 0), xS 57 (.extract (.tmp 52) 1), xS 58 (.extract (.tmp 52) 2), xS 13 (.alloc [.g .nilp, .g .nilp]), .mk none none (.store 2 (.tmp 13) (.tmp 56)), xS 14 (.move (.tmp 57)), xS 15 (.move (.tmp 58))]) (.seq (.ops [xS 59 (.fieldAddr 0 (.tmp 13)), xS 60 (.load none (.tmp 59)), xS 61 (.move (.tmp 14)), xS 62 (.call 41 [.tmp 60, .tmp 61])]) (.seq (.ops [xS 8 (.move (xN 0))]) .ret)))))))))
theorem c14 : compF Try.prog 14 = some x14 := by kernel_rfl
def x15 : XF := XF.mk 11 [.cell 4 (some 9), .tmp 5] (.seq (.ops [xS 4 (.alloc x9z), xS 5 (.move (xB false))]) (.seq (.ops [xS 6 (.move (.tmp 0)), xS 7 (.move (.tmp 1)), xS 8 (.call 42 [.tmp 6, .tmp 7, .cst (.g (.bool (.lit true)))]), xS 9 (.extract (.tmp 8) 0), xS 10 (.extract (.tmp 8) 1), .mk none none (.store 9 (.tmp 4) (.tmp 9)), xS 5 (.move (.tmp 10))]) .ret))
theorem c15 : compF Try.prog 15 = some x15 := by kernel_rfl
def x16 : XF := XF.mk 50 [.tmp 0] (.seq (.ops [xS 0 (.move (xB false))]) (.seq (.ops [xS 4 (.build [.g (.int .i64 (.lit 0)), .g (.int .i64 (.lit 0)), .g (.int .i64 (.lit 0)), .g (.int .i64 (.lit 0)), .g (.int .i64 (.lit 0)), .g (.int .i64 (.lit 0)), .g (.int .i64 (.lit 0)), .g .nil] [(0, 1, .cst (.g (.int .i64 (.lit 2)))), (1, 1, .cst (.g (.int .i64 (.lit 1)))), (2, 1, .cst (.g (.int .i64 (.lit 1)))), (3, 1, .cst (.g (.int .i64 (.lit 1)))), (4, 1, .cst (.g (.int .i64 (.lit 1)))), (5, 1, .cst (.g (.int .i64 (.lit 1)))), (6, 1, .cst (.g (.int .i64 (.lit 1))))]), xS 5 (.call 8 [.tmp 4]), xS 1 (.move (.tmp 5))]) (.seq (.seq (.ops [xS 6 (.move (.tmp 1)), xS 7 (.eq false .ptr (.tmp 6) (.cst (.g .nilp))), xS 8 (.move (.tmp 7)), xG 9 8 false (.move (.tmp 1)), xG 10 8 false (.call 11 [.tmp 9]), xG 11 8 false (.cmp .neq (.tmp 10) (xN 0)), xS 12 (.pick (.tmp 8) (xB true) (.tmp 11)), xS 13 (.move (.tmp 12)), xG 14 13 false (.move (.tmp 1)), xG 15 13 false (.build x9z [(0, 1, .cst (.g (.int .i64 (.lit 1)))), (2, 1, .cst (.g (.int .i64 (.lit 1))))]), xG 16 13 false (.call 10 [.tmp 14, .tmp 15]), xG 17 13 false (.cmp .neq (.tmp 16) (xN 0)), xS 18 (.pick (.tmp 13) (xB true) (.tmp 17)), xS 19 (.move (.tmp 18)), xG 20 19 false (.move (.tmp 1)), xG 21 19 false (.call 11 [.tmp 20]), xG 22 19 false (.cmp .neq (.tmp 21) (xN 1)), xS 23 (.pick (.tmp 19) (xB true) (.tmp 22)), xS 24 (.move (.tmp 23)), xG 25 24 false (.move (.tmp 1)), xG 26 24 false (.call 14 [.tmp 25, .cst (.g (.int .i64 (.lit 0))), .cst (.g (.int .i64 (.lit 3))), .cst (.g (.int .u16 (.lit 5)))]), xG 27 24 false (.cmp .neq (.tmp 26) (xN 2)), xS 28 (.pick (.tmp 24) (xB true) (.tmp 27)), xS 29 (.move (.tmp 28)), xG 30 29 false (.move (.tmp 1)), xG 31 29 false (.call 14 [.tmp 30, .cst (.g (.int .i64 (.lit 0))), .cst (.g (.int .i64 (.lit 0))), .cst (.g (.int .u16 (.lit 0)))]), xG 32 29 false (.cmp .neq (.tmp 31) (xN 0)), xS 33 (.pick (.tmp 29) (xB true) (.tmp 32))]) (.cond (.tmp 33) (.seq (.ops [xS 0 (.move (xB false))]) .ret) .skip)) (.seq (.ops [xS 35 (.move (.tmp 1)), xS 36 (.call 15 [.tmp 35, .cst (.g (.int .i64 (.lit 1)))]), xS 34 (.move (.tmp 36)), xS 37 (.extract (.tmp 34) 0), xS 38 (.extract (.tmp 34) 1), xS 2 (.alloc x9z), .mk none none (.store 9 (.tmp 2) (.tmp 37)), xS 3 (.move (.tmp 38))]) (.seq (.ops [xS 39 (.move (.tmp 3)), xS 40 (.move (.tmp 39)), xG 41 40 true (.fieldAddr 0 (.tmp 2)), xG 42 40 true (.load none (.tmp 41)), xG 43 40 true (.cmp .eql (.tmp 42) (xN 1)), xS 44 (.pick (.tmp 40) (.tmp 43) (xB false)), xS 45 (.move (.tmp 44)), xG 46 45 true (.move (.tmp 1)), xG 47 45 true (.call 11 [.tmp 46]), xG 48 45 true (.cmp .eql (.tmp 47) (xN 0)), xS 49 (.pick (.tmp 45) (.tmp 48) (xB false)), xS 0 (.move (.tmp 49))]) .ret)))))
theorem c16 : compF Try.prog 16 = some x16 := by kernel_rfl
def x17 : XF := XF.mk 22 [.tmp 6] (.seq (.ops [xS 6 (.move (xN 0))]) (.seq (.seq (.ops [xS 7 (.move (.tmp 0)), xS 8 (.move (.tmp 1)), xS 9 (.call 31 [.tmp 7, .tmp 8]), xS 10 (.not (.tmp 9))]) (.cond (.tmp 10) (.seq (.ops [xS 6 (.move (xN 0))]) .ret) .skip)) (.seq (.ops [xS 11 (.move (.tmp 0)), xS 12 (.nilCheck (.tmp 11)), xS 13 (.fieldAddr 0 (.tmp 12)), xS 14 (.load none (.tmp 13)), xS 15 (.move (.tmp 1)), xS 16 (.indexAddr none 4 (.tmp 14) (.tmp 15)), xS 17 (.load (some 4) (.tmp 16)), xS 18 (.move (.tmp 2)), xS 19 (.call 32 [.tmp 17, .tmp 18]), xS 20 (.field 0 none (.tmp 19)), xS 21 (.call 43 [.tmp 20]), xS 6 (.move (.tmp 21))]) .ret)))
theorem c17 : compF Try.prog 17 = some x17 := by kernel_rfl
def x18 : XF := XF.mk 43 [.cell 2 (some 8)] (.seq (.ops [xS 1 (.box (.tmp 0)), xS 2 (.alloc [.g (.int .i64 (.lit 0)), .g (.int .i64 (.lit 0)), .g (.int .i64 (.lit 0)), .g (.int .i64 (.lit 0)), .g (.int .i64 (.lit 0)), .g (.int .i64 (.lit 0)), .g (.int .i64 (.lit 0)), .g .nil])]) (.seq (.drawn 1 (.op 0 true (xS 4 (.fieldAddr 0 (.tmp 1))) (.op 1 true (xS 5 (.load none (.tmp 4))) (.op 4 true (xS 8 (.fieldAddr 1 (.tmp 1))) (.op 5 true (xS 9 (.load none (.tmp 8))) (.op 8 true (xS 12 (.fieldAddr 2 (.tmp 1))) (.op 9 true (xS 13 (.load none (.tmp 12))) (.op 12 true (xS 16 (.fieldAddr 3 (.tmp 1))) (.op 13 true (xS 17 (.load none (.tmp 16))) (.op 16 true (xS 20 (.fieldAddr 4 (.tmp 1))) (.op 17 true (xS 21 (.load none (.tmp 20))) (.op 20 true (xS 24 (.fieldAddr 5 (.tmp 1))) (.op 21 true (xS 25 (.load none (.tmp 24))) (.op 24 true (xS 28 (.fieldAddr 6 (.tmp 1))) (.op 25 true (xS 29 (.load none (.tmp 28))) (.alt (.op 2 false (xS 6 (.call 9 [.tmp 5, .cst (.g (.int .i64 (.lit 4)))])) (.op 3 true (xS 7 (.bin .add (xN 1) (.tmp 6))) (.alt (.op 6 false (xS 10 (.call 9 [.tmp 9, .cst (.g (.int .i64 (.lit 4)))])) (.op 7 true (xS 11 (.bin .add (xN 1) (.tmp 10))) (.alt (.op 10 false (xS 14 (.call 9 [.tmp 13, .cst (.g (.int .i64 (.lit 2)))])) (.op 11 true (xS 15 (.bin .add (xN 1) (.tmp 14))) (.alt (.op 14 false (xS 18 (.call 9 [.tmp 17, .cst (.g (.int .i64 (.lit 2)))])) (.op 15 true (xS 19 (.bin .add (xN 1) (.tmp 18))) (.alt (.op 18 false (xS 22 (.call 9 [.tmp 21, .cst (.g (.int .i64 (.lit 2)))])) (.op 19 true (xS 23 (.bin .add (xN 1) (.tmp 22))) (.alt (.op 22 false (xS 26 (.call 9 [.tmp 25, .cst (.g (.int .i64 (.lit 3)))])) (.op 23 true (xS 27 (.bin .add (xN 1) (.tmp 26))) (.alt (.op 26 false (xS 30 (.call 9 [.tmp 29, .cst (.g (.int .i64 (.lit 3)))])) (.op 27 true (xS 31 (.bin .add (xN 1) (.tmp 30))) (.op 28 true (xS 32 (.build [.g (.int .i64 (.lit 0)), .g (.int .i64 (.lit 0)), .g (.int .i64 (.lit 0)), .g (.int .i64 (.lit 0)), .g (.int .i64 (.lit 0)), .g (.int .i64 (.lit 0)), .g (.int .i64 (.lit 0)), .g .nil] [(0, 1, .tmp 7), (1, 1, .tmp 11), (2, 1, .tmp 15), (3, 1, .tmp 19), (4, 1, .tmp 23), (5, 1, .tmp 27), (6, 1, .tmp 31)])) (.op 29 false (xS 3 (.alloc [.g (.int .i64 (.lit 0)), .g (.int .i64 (.lit 0)), .g (.int .i64 (.lit 0)), .g (.int .i64 (.lit 0)), .g (.int .i64 (.lit 0)), .g (.int .i64 (.lit 0)), .g (.int .i64 (.lit 0)), .g .nil])) (.op 30 false (.mk none none (.store 8 (.tmp 3) (.tmp 32))) .nil))))) (.op 29 false (xS 3 (.alloc [.g (.int .i64 (.lit 0)), .g (.int .i64 (.lit 0)), .g (.int .i64 (.lit 0)), .g (.int .i64 (.lit 0)), .g (.int .i64 (.lit 0)), .g (.int .i64 (.lit 0)), .g (.int .i64 (.lit 0)), .g .nil])) (.op 26 false (xS 30 (.call 9 [.tmp 29, .cst (.g (.int .i64 (.lit 3)))])) (.op 27 false (xS 31 (.bin .add (xN 1) (.tmp 30))) (.op 28 false (xS 32 (.build [.g (.int .i64 (.lit 0)), .g (.int .i64 (.lit 0)), .g (.int .i64 (.lit 0)), .g (.int .i64 (.lit 0)), .g (.int .i64 (.lit 0)), .g (.int .i64 (.lit 0)), .g (.int .i64 (.lit 0)), .g .nil] [(0, 1, .tmp 7), (1, 1, .tmp 11), (2, 1, .tmp 15), (3, 1, .tmp 19), (4, 1, .tmp 23), (5, 1, .tmp 27), (6, 1, .tmp 31)])) (.op 30 false (.mk none none (.store 8 (.tmp 3) (.tmp 32))) .nil)))))))) (.op 29 false (xS 3 (.alloc [.g (.int .i64 (.lit 0)), .g (.int .i64 (.lit 0)), .g (.int .i64 (.lit 0)), .g (.int .i64 (.lit 0)), .g (.int .i64 (.lit 0)), .g (.int .i64 (.lit 0)), .g (.int .i64 (.lit 0)), .g .nil])) (.op 22 false (xS 26 (.call 9 [.tmp 25, .cst (.g (.int .i64 (.lit 3)))])) (.op 23 true (xS 27 (.bin .add (xN 1) (.tmp 26))) (.op 26 false (xS 30 (.call 9 [.tmp 29, .cst (.g (.int .i64 (.lit 3)))])) (.op 27 false (xS 31 (.bin .add (xN 1) (.tmp 30))) (.op 28 false (xS 32 (.build [.g (.int .i64 (.lit 0)), .g (.int .i64 (.lit 0)), .g (.int .i64 (.lit 0)), .g (.int .i64 (.lit 0)), .g (.int .i64 (.lit 0)), .g (.int .i64 (.lit 0)), .g (.int .i64 (.lit 0)), .g .nil] [(0, 1, .tmp 7), (1, 1, .tmp 11), (2, 1, .tmp 15), (3, 1, .tmp 19), (4, 1, .tmp 23), (5, 1, .tmp 27), (6, 1, .tmp 31)])) (.op 30 false (.mk none none (.store 8 (.tmp 3) (.tmp 32))) .nil)))))))))) (.op 29 false (xS 3 (.alloc [.g (.int .i64 (.lit 0)), .g (.int .i64 (.lit 0)), .g (.int .i64 (.lit 0)), .g (.int .i64 (.lit 0)), .g (.int .i64 (.lit 0)), .g (.int .i64 (.lit 0)), .g (.int .i64 (.lit 0)), .g .nil])) (.op 18 false (xS 22 (.call 9 [.tmp 21, .cst (.g (.int .i64 (.lit 2)))])) (.op 19 true (xS 23 (.bin .add (xN 1) (.tmp 22))) (.op 22 false (xS 26 (.call 9 [.tmp 25, .cst (.g (.int .i64 (.lit 3)))])) (.op 23 true (xS 27 (.bin .add (xN 1) (.tmp 26))) (.op 26 false (xS 30 (.call 9 [.tmp 29, .cst (.g (.int .i64 (.lit 3)))])) (.op 27 false (xS 31 (.bin .add (xN 1) (.tmp 30))) (.op 28 false (xS 32 (.build [.g (.int .i64 (.lit 0)), .g (.int .i64 (.lit 0)), .g (.int .i64 (.lit 0)), .g (.int .i64 (.lit 0)), .g (.int .i64 (.lit 0)), .g (.int .i64 (.lit 0)), .g (.int .i64 (.lit 0)), .g .nil] [(0, 1, .tmp 7), (1, 1, .tmp 11), (2, 1, .tmp 15), (3, 1, .tmp 19), (4, 1, .tmp 23), (5, 1, .tmp 27), (6, 1, .tmp 31)])) (.op 30 false (.mk none none (.store 8 (.tmp 3) (.tmp 32))) .nil)))))))))))) (.op 29 false (xS 3 (.alloc [.g (.int .i64 (.lit 0)), .g (.int .i64 (.lit 0)), .g (.int .i64 (.lit 0)), .g (.int .i64 (.lit 0)), .g (.int .i64 (.lit 0)), .g (.int .i64 (.lit 0)), .g (.int .i64 (.lit 0)), .g .nil])) (.op 14 false (xS 18 (.call 9 [.tmp 17, .cst (.g (.int .i64 (.lit 2)))])) (.op 15 true (xS 19 (.bin .add (xN 1) (.tmp 18))) (.op 18 false (xS 22 (.call 9 [.tmp 21, .cst (.g (.int .i64 (.lit 2)))])) (.op 19 true (xS 23 (.bin .add (xN 1) (.tmp 22))) (.op 22 false (xS 26 (.call 9 [.tmp 25, .cst (.g (.int .i64 (.lit 3)))])) (.op 23 true (xS 27 (.bin .add (xN 1) (.tmp 26))) (.op 26 false (xS 30 (.call 9 [.tmp 29, .cst (.g (.int .i64 (.lit 3)))])) (.op 27 false (xS 31 (.bin .add (xN 1) (.tmp 30))) (.op 28 false (xS 32 (.build [.g (.int .i64 (.lit 0)), .g (.int .i64 (.lit 0)), .g (.int .i64 (.lit 0)), .g (.int .i64 (.lit 0)), .g (.int .i64 (.lit 0)), .g (.int .i64 (.lit 0)), .g (.int .i64 (.lit 0)), .g .nil] [(0, 1, .tmp 7), (1, 1, .tmp 11), (2, 1, .tmp 15), (3, 1, .tmp 19), (4, 1, .tmp 23), (5, 1, .tmp 27), (6, 1, .tmp 31)])) (.op 30 false (.mk none none (.store 8 (.tmp 3) (.tmp 32))) .nil)))))))))))))) (.op 29 false (xS 3 (.alloc [.g (.int .i64 (.lit 0)), .g (.int .i64 (.lit 0)), .g (.int .i64 (.lit 0)), .g (.int .i64 (.lit 0)), .g (.int .i64 (.lit 0)), .g (.int .i64 (.lit 0)), .g (.int .i64 (.lit 0)), .g .nil])) (.op 10 false (xS 14 (.call 9 [.tmp 13, .cst (.g (.int .i64 (.lit 2)))])) (.op 11 true (xS 15 (.bin .add (xN 1) (.tmp 14))) (.op 14 false (xS 18 (.call 9 [.tmp 17, .cst (.g (.int .i64 (.lit 2)))])) (.op 15 true (xS 19 (.bin .add (xN 1) (.tmp 18))) (.op 18 false (xS 22 (.call 9 [.tmp 21, .cst (.g (.int .i64 (.lit 2)))])) (.op 19 true (xS 23 (.bin .add (xN 1) (.tmp 22))) (.op 22 false (xS 26 (.call 9 [.tmp 25, .cst (.g (.int .i64 (.lit 3)))])) (.op 23 true (xS 27 (.bin .add (xN 1) (.tmp 26))) (.op 26 false (xS 30 (.call 9 [.tmp 29, .cst (.g (.int .i64 (.lit 3)))])) (.op 27 false (xS 31 (.bin .add (xN 1) (.tmp 30))) (.op 28 false (xS 32 (.build [.g (.int .i64 (.lit 0)), .g (.int .i64 (.lit 0)), .g (.int .i64 (.lit 0)), .g (.int .i64 (.lit 0)), .g (.int .i64 (.lit 0)), .g (.int .i64 (.lit 0)), .g (.int .i64 (.lit 0)), .g .nil] [(0, 1, .tmp 7), (1, 1, .tmp 11), (2, 1, .tmp 15), (3, 1, .tmp 19), (4, 1, .tmp 23), (5, 1, .tmp 27), (6, 1, .tmp 31)])) (.op 30 false (.mk none none (.store 8 (.tmp 3) (.tmp 32))) .nil)))))))))))))))) (.op 29 false (xS 3 (.alloc [.g (.int .i64 (.lit 0)), .g (.int .i64 (.lit 0)), .g (.int .i64 (.lit 0)), .g (.int .i64 (.lit 0)), .g (.int .i64 (.lit 0)), .g (.int .i64 (.lit 0)), .g (.int .i64 (.lit 0)), .g .nil])) (.op 6 false (xS 10 (.call 9 [.tmp 9, .cst (.g (.int .i64 (.lit 4)))])) (.op 7 true (xS 11 (.bin .add (xN 1) (.tmp 10))) (.op 10 false (xS 14 (.call 9 [.tmp 13, .cst (.g (.int .i64 (.lit 2)))])) (.op 11 true (xS 15 (.bin .add (xN 1) (.tmp 14))) (.op 14 false (xS 18 (.call 9 [.tmp 17, .cst (.g (.int .i64 (.lit 2)))])) (.op 15 true (xS 19 (.bin .add (xN 1) (.tmp 18))) (.op 18 false (xS 22 (.call 9 [.tmp 21, .cst (.g (.int .i64 (.lit 2)))])) (.op 19 true (xS 23 (.bin .add (xN 1) (.tmp 22))) (.op 22 false (xS 26 (.call 9 [.tmp 25, .cst (.g (.int .i64 (.lit 3)))])) (.op 23 true (xS 27 (.bin .add (xN 1) (.tmp 26))) (.op 26 false (xS 30 (.call 9 [.tmp 29, .cst (.g (.int .i64 (.lit 3)))])) (.op 27 false (xS 31 (.bin .add (xN 1) (.tmp 30))) (.op 28 false (xS 32 (.build [.g (.int .i64 (.lit 0)), .g (.int .i64 (.lit 0)), .g (.int .i64 (.lit 0)), .g (.int .i64 (.lit 0)), .g (.int .i64 (.lit 0)), .g (.int .i64 (.lit 0)), .g (.int .i64 (.lit 0)), .g .nil] [(0, 1, .tmp 7), (1, 1, .tmp 11), (2, 1, .tmp 15), (3, 1, .tmp 19), (4, 1, .tmp 23), (5, 1, .tmp 27), (6, 1, .tmp 31)])) (.op 30 false (.mk none none (.store 8 (.tmp 3) (.tmp 32))) .nil)))))))))))))))))) (.op 29 false (xS 3 (.alloc [.g (.int .i64 (.lit 0)), .g (.int .i64 (.lit 0)), .g (.int .i64 (.lit 0)), .g (.int .i64 (.lit 0)), .g (.int .i64 (.lit 0)), .g (.int .i64 (.lit 0)), .g (.int .i64 (.lit 0)), .g .nil])) (.op 2 false (xS 6 (.call 9 [.tmp 5, .cst (.g (.int .i64 (.lit 4)))])) (.op 3 true (xS 7 (.bin .add (xN 1) (.tmp 6))) (.op 6 false (xS 10 (.call 9 [.tmp 9, .cst (.g (.int .i64 (.lit 4)))])) (.op 7 true (xS 11 (.bin .add (xN 1) (.tmp 10))) (.op 10 false (xS 14 (.call 9 [.tmp 13, .cst (.g (.int .i64 (.lit 2)))])) (.op 11 true (xS 15 (.bin .add (xN 1) (.tmp 14))) (.op 14 false (xS 18 (.call 9 [.tmp 17, .cst (.g (.int .i64 (.lit 2)))])) (.op 15 true (xS 19 (.bin .add (xN 1) (.tmp 18))) (.op 18 false (xS 22 (.call 9 [.tmp 21, .cst (.g (.int .i64 (.lit 2)))])) (.op 19 true (xS 23 (.bin .add (xN 1) (.tmp 22))) (.op 22 false (xS 26 (.call 9 [.tmp 25, .cst (.g (.int .i64 (.lit 3)))])) (.op 23 true (xS 27 (.bin .add (xN 1) (.tmp 26))) (.op 26 false (xS 30 (.call 9 [.tmp 29, .cst (.g (.int .i64 (.lit 3)))])) (.op 27 false (xS 31 (.bin .add (xN 1) (.tmp 30))) (.op 28 false (xS 32 (.build [.g (.int .i64 (.lit 0)), .g (.int .i64 (.lit 0)), .g (.int .i64 (.lit 0)), .g (.int .i64 (.lit 0)), .g (.int .i64 (.lit 0)), .g (.int .i64 (.lit 0)), .g (.int .i64 (.lit 0)), .g .nil] [(0, 1, .tmp 7), (1, 1, .tmp 11), (2, 1, .tmp 15), (3, 1, .tmp 19), (4, 1, .tmp 23), (5, 1, .tmp 27), (6, 1, .tmp 31)])) (.op 30 false (.mk none none (.store 8 (.tmp 3) (.tmp 32))) .nil))))))))))))))))))))))))))))))))) (.seq (.ops [xS 33 (.fieldAddr 7 (.tmp 1)), xS 34 (.load none (.tmp 33)), xS 35 (.fieldAddr 1 (.tmp 3)), xS 36 (.load none (.tmp 35)), xS 37 (.fieldAddr 2 (.tmp 3)), xS 38 (.load none (.tmp 37)), xS 39 (.bin .mul (.tmp 36) (.tmp 38)), xS 40 (.call 44 [.tmp 34, .tmp 39]), xS 41 (.fieldAddr 7 (.tmp 3)), .mk none none (.store 1 (.tmp 41) (.tmp 40))]) (.seq (.ops [xS 42 (.load (some 8) (.tmp 3)), .mk none none (.store 8 (.tmp 2) (.tmp 42))]) .ret))))
theorem c18 : compF Try.prog 18 = some x18 := by kernel_rfl
def x19 : XF := XF.mk 85 [.cell 4 (some 9)] (.seq (.ops [xS 2 (.box (.tmp 0)), xS 4 (.alloc x9z)]) (.seq (.join (.drawn 1 (.op 0 true (xS 6 (.fieldAddr 0 (.tmp 2))) (.op 1 true (xS 7 (.load none (.tmp 6))) (.op 4 true (xS 10 (.fieldAddr 1 (.tmp 2))) (.op 5 true (xS 11 (.load none (.tmp 10))) (.op 7 true (xS 13 (.fieldAddr 2 (.tmp 2))) (.op 8 true (xS 14 (.load none (.tmp 13))) (.op 10 true (xS 16 (.fieldAddr 3 (.tmp 2))) (.op 11 true (xS 17 (.load none (.tmp 16))) (.op 13 true (xS 19 (.fieldAddr 4 (.tmp 2))) (.op 14 true (xS 20 (.load none (.tmp 19))) (.op 16 true (xS 22 (.fieldAddr 5 (.tmp 2))) (.op 17 true (xS 23 (.load none (.tmp 22))) (.op 20 true (xS 26 (.fieldAddr 6 (.tmp 2))) (.op 21 true (xS 27 (.load none (.tmp 26))) (.op 23 true (xS 29 (.fieldAddr 7 (.tmp 2))) (.op 24 true (xS 30 (.load none (.tmp 29))) (.op 25 true (xS 31 (.fieldAddr 8 (.tmp 2))) (.op 26 true (xS 32 (.load none (.tmp 31))) (.alt (.op 2 false (xS 8 (.call 9 [.tmp 7, .cst (.g (.int .i64 (.lit 9)))])) (.op 3 true (xS 9 (.bin .add (xN 1) (.tmp 8))) (.alt (.op 6 false (xS 12 (.call 9 [.tmp 11, .cst (.g (.int .i64 (.lit 4)))])) (.alt (.op 9 false (xS 15 (.call 9 [.tmp 14, .cst (.g (.int .i64 (.lit 4)))])) (.alt (.op 12 false (xS 18 (.call 9 [.tmp 17, .cst (.g (.int .i64 (.lit 5)))])) (.alt (.op 15 false (xS 21 (.call 9 [.tmp 20, .cst (.g (.int .i64 (.lit 4)))])) (.alt (.op 18 false (xS 24 (.call 9 [.tmp 23, .cst (.g (.int .i64 (.lit 5)))])) (.op 19 true (xS 25 (.bin .sub (.tmp 24) (xN 1))) (.alt (.op 22 false (xS 28 (.call 9 [.tmp 27, .cst (.g (.int .i64 (.lit 3)))])) (.alt (.op 27 false (xS 33 (.call 44 [.tmp 32, .cst (.g (.int .i64 (.lit 4)))])) (.op 28 true (xS 34 (.build x9z [(0, 1, .tmp 9), (1, 1, .tmp 12), (2, 1, .tmp 15), (3, 1, .tmp 18), (4, 1, .tmp 21), (5, 1, .tmp 25), (6, 1, .tmp 28), (7, 1, .tmp 30), (8, 1, .tmp 33)])) (.op 29 false (xS 5 (.alloc x9z)) (.op 30 false (.mk none none (.store 9 (.tmp 5) (.tmp 34))) .nil)))) (.op 29 false (xS 5 (.alloc x9z)) (.op 27 false (xS 33 (.call 44 [.tmp 32, .cst (.g (.int .i64 (.lit 4)))])) (.op 28 false (xS 34 (.build x9z [(0, 1, .tmp 9), (1, 1, .tmp 12), (2, 1, .tmp 15), (3, 1, .tmp 18), (4, 1, .tmp 21), (5, 1, .tmp 25), (6, 1, .tmp 28), (7, 1, .tmp 30), (8, 1, .tmp 33)])) (.op 30 false (.mk none none (.store 9 (.tmp 5) (.tmp 34))) .nil)))))) (.op 29 false (xS 5 (.alloc x9z)) (.op 22 false (xS 28 (.call 9 [.tmp 27, .cst (.g (.int .i64 (.lit 3)))])) (.op 27 false (xS 33 (.call 44 [.tmp 32, .cst (.g (.int .i64 (.lit 4)))])) (.op 28 false (xS 34 (.build x9z [(0, 1, .tmp 9), (1, 1, .tmp 12), (2, 1, .tmp 15), (3, 1, .tmp 18), (4, 1, .tmp 21), (5, 1, .tmp 25), (6, 1, .tmp 28), (7, 1, .tmp 30), (8, 1, .tmp 33)])) (.op 30 false (.mk none none (.store 9 (.tmp 5) (.tmp 34))) .nil)))))))) (.op 29 false (xS 5 (.alloc x9z)) (.op 18 false (xS 24 (.call 9 [.tmp 23, .cst (.g (.int .i64 (.lit 5)))])) (.op 19 true (xS 25 (.bin .sub (.tmp 24) (xN 1))) (.op 22 false (xS 28 (.call 9 [.tmp 27, .cst (.g (.int .i64 (.lit 3)))])) (.op 27 false (xS 33 (.call 44 [.tmp 32, .cst (.g (.int .i64 (.lit 4)))])) (.op 28 false (xS 34 (.build x9z [(0, 1, .tmp 9), (1, 1, .tmp 12), (2, 1, .tmp 15), (3, 1, .tmp 18), (4, 1, .tmp 21), (5, 1, .tmp 25), (6, 1, .tmp 28), (7, 1, .tmp 30), (8, 1, .tmp 33)])) (.op 30 false (.mk none none (.store 9 (.tmp 5) (.tmp 34))) .nil))))))))) (.op 29 false (xS 5 (.alloc x9z)) (.op 15 false (xS 21 (.call 9 [.tmp 20, .cst (.g (.int .i64 (.lit 4)))])) (.op 18 false (xS 24 (.call 9 [.tmp 23, .cst (.g (.int .i64 (.lit 5)))])) (.op 19 true (xS 25 (.bin .sub (.tmp 24) (xN 1))) (.op 22 false (xS 28 (.call 9 [.tmp 27, .cst (.g (.int .i64 (.lit 3)))])) (.op 27 false (xS 33 (.call 44 [.tmp 32, .cst (.g (.int .i64 (.lit 4)))])) (.op 28 false (xS 34 (.build x9z [(0, 1, .tmp 9), (1, 1, .tmp 12), (2, 1, .tmp 15), (3, 1, .tmp 18), (4, 1, .tmp 21), (5, 1, .tmp 25), (6, 1, .tmp 28), (7, 1, .tmp 30), (8, 1, .tmp 33)])) (.op 30 false (.mk none none (.store 9 (.tmp 5) (.tmp 34))) .nil)))))))))) (.op 29 false (xS 5 (.alloc x9z)) (.op 12 false (xS 18 (.call 9 [.tmp 17, .cst (.g (.int .i64 (.lit 5)))])) (.op 15 false (xS 21 (.call 9 [.tmp 20, .cst (.g (.int .i64 (.lit 4)))])) (.op 18 false (xS 24 (.call 9 [.tmp 23, .cst (.g (.int .i64 (.lit 5)))])) (.op 19 true (xS 25 (.bin .sub (.tmp 24) (xN 1))) (.op 22 false (xS 28 (.call 9 [.tmp 27, .cst (.g (.int .i64 (.lit 3)))])) (.op 27 false (xS 33 (.call 44 [.tmp 32, .cst (.g (.int .i64 (.lit 4)))])) (.op 28 false (xS 34 (.build x9z [(0, 1, .tmp 9), (1, 1, .tmp 12), (2, 1, .tmp 15), (3, 1, .tmp 18), (4, 1, .tmp 21), (5, 1, .tmp 25), (6, 1, .tmp 28), (7, 1, .tmp 30), (8, 1, .tmp 33)])) (.op 30 false (.mk none none (.store 9 (.tmp 5) (.tmp 34))) .nil))))))))))) (.op 29 false (xS 5 (.alloc x9z)) (.op 9 false (xS 15 (.call 9 [.tmp 14, .cst (.g (.int .i64 (.lit 4)))])) (.op 12 false (xS 18 (.call 9 [.tmp 17, .cst (.g (.int .i64 (.lit 5)))])) (.op 15 false (xS 21 (.call 9 [.tmp 20, .cst (.g (.int .i64 (.lit 4)))])) (.op 18 false (xS 24 (.call 9 [.tmp 23, .cst (.g (.int .i64 (.lit 5)))])) (.op 19 true (xS 25 (.bin .sub (.tmp 24) (xN 1))) (.op 22 false (xS 28 (.call 9 [.tmp 27, .cst (.g (.int .i64 (.lit 3)))])) (.op 27 false (xS 33 (.call 44 [.tmp 32, .cst (.g (.int .i64 (.lit 4)))])) (.op 28 false (xS 34 (.build x9z [(0, 1, .tmp 9), (1, 1, .tmp 12), (2, 1, .tmp 15), (3, 1, .tmp 18), (4, 1, .tmp 21), (5, 1, .tmp 25), (6, 1, .tmp 28), (7, 1, .tmp 30), (8, 1, .tmp 33)])) (.op 30 false (.mk none none (.store 9 (.tmp 5) (.tmp 34))) .nil)))))))))))) (.op 29 false (xS 5 (.alloc x9z)) (.op 6 false (xS 12 (.call 9 [.tmp 11, .cst (.g (.int .i64 (.lit 4)))])) (.op 9 false (xS 15 (.call 9 [.tmp 14, .cst (.g (.int .i64 (.lit 4)))])) (.op 12 false (xS 18 (.call 9 [.tmp 17, .cst (.g (.int .i64 (.lit 5)))])) (.op 15 false (xS 21 (.call 9 [.tmp 20, .cst (.g (.int .i64 (.lit 4)))])) (.op 18 false (xS 24 (.call 9 [.tmp 23, .cst (.g (.int .i64 (.lit 5)))])) (.op 19 true (xS 25 (.bin .sub (.tmp 24) (xN 1))) (.op 22 false (xS 28 (.call 9 [.tmp 27, .cst (.g (.int .i64 (.lit 3)))])) (.op 27 false (xS 33 (.call 44 [.tmp 32, .cst (.g (.int .i64 (.lit 4)))])) (.op 28 false (xS 34 (.build x9z [(0, 1, .tmp 9), (1, 1, .tmp 12), (2, 1, .tmp 15), (3, 1, .tmp 18), (4, 1, .tmp 21), (5, 1, .tmp 25), (6, 1, .tmp 28), (7, 1, .tmp 30), (8, 1, .tmp 33)])) (.op 30 false (.mk none none (.store 9 (.tmp 5) (.tmp 34))) .nil)))))))))))))) (.op 29 false (xS 5 (.alloc x9z)) (.op 2 false (xS 8 (.call 9 [.tmp 7, .cst (.g (.int .i64 (.lit 9)))])) (.op 3 true (xS 9 (.bin .add (xN 1) (.tmp 8))) (.op 6 false (xS 12 (.call 9 [.tmp 11, .cst (.g (.int .i64 (.lit 4)))])) (.op 9 false (xS 15 (.call 9 [.tmp 14, .cst (.g (.int .i64 (.lit 4)))])) (.op 12 false (xS 18 (.call 9 [.tmp 17, .cst (.g (.int .i64 (.lit 5)))])) (.op 15 false (xS 21 (.call 9 [.tmp 20, .cst (.g (.int .i64 (.lit 4)))])) (.op 18 false (xS 24 (.call 9 [.tmp 23, .cst (.g (.int .i64 (.lit 5)))])) (.op 19 true (xS 25 (.bin .sub (.tmp 24) (xN 1))) (.op 22 false (xS 28 (.call 9 [.tmp 27, .cst (.g (.int .i64 (.lit 3)))])) (.op 27 false (xS 33 (.call 44 [.tmp 32, .cst (.g (.int .i64 (.lit 4)))])) (.op 28 false (xS 34 (.build x9z [(0, 1, .tmp 9), (1, 1, .tmp 12), (2, 1, .tmp 15), (3, 1, .tmp 18), (4, 1, .tmp 21), (5, 1, .tmp 25), (6, 1, .tmp 28), (7, 1, .tmp 30), (8, 1, .tmp 33)])) (.op 30 false (.mk none none (.store 9 (.tmp 5) (.tmp 34))) .nil)))))))))))))))))))))))))))))))))) (.seq (.seq (.ops [xS 35 (.move (.tmp 1)), xS 36 (.call 9 [.tmp 35, .cst (.g (.int .i64 (.lit 40)))])]) (.block 0 (.seq (.ops [xS 38 (.cmp .eql (.tmp 36) (xN 31)), xS 37 (.move (.tmp 38))]) (.cond (.tmp 37) (.ops [xS 39 (.fieldAddr 0 (.tmp 2)), xS 40 (.load none (.tmp 39)), xS 41 (.fieldAddr 0 (.tmp 5)), .mk none none (.store 1 (.tmp 41) (.tmp 40))]) (.seq (.ops [xS 43 (.cmp .eql (.tmp 36) (xN 32)), xS 42 (.move (.tmp 43))]) (.cond (.tmp 42) (.ops [xS 44 (.fieldAddr 1 (.tmp 2)), xS 45 (.load none (.tmp 44)), xS 46 (.fieldAddr 1 (.tmp 5)), .mk none none (.store 1 (.tmp 46) (.tmp 45))]) (.seq (.ops [xS 48 (.cmp .eql (.tmp 36) (xN 33)), xS 47 (.move (.tmp 48))]) (.cond (.tmp 47) (.ops [xS 49 (.fieldAddr 2 (.tmp 2)), xS 50 (.load none (.tmp 49)), xS 51 (.fieldAddr 2 (.tmp 5)), .mk none none (.store 1 (.tmp 51) (.tmp 50))]) (.seq (.ops [xS 53 (.cmp .eql (.tmp 36) (xN 34)), xS 52 (.move (.tmp 53))]) (.cond (.tmp 52) (.ops [xS 54 (.fieldAddr 3 (.tmp 2)), xS 55 (.load none (.tmp 54)), xS 56 (.fieldAddr 3 (.tmp 5)), .mk none none (.store 1 (.tmp 56) (.tmp 55))]) (.seq (.ops [xS 58 (.cmp .eql (.tmp 36) (xN 35)), xS 57 (.move (.tmp 58))]) (.cond (.tmp 57) (.ops [xS 59 (.fieldAddr 4 (.tmp 2)), xS 60 (.load none (.tmp 59)), xS 61 (.fieldAddr 4 (.tmp 5)), .mk none none (.store 1 (.tmp 61) (.tmp 60))]) (.seq (.ops [xS 63 (.cmp .eql (.tmp 36) (xN 36)), xS 62 (.move (.tmp 63))]) (.cond (.tmp 62) (.ops [xS 64 (.fieldAddr 5 (.tmp 2)), xS 65 (.load none (.tmp 64)), xS 66 (.fieldAddr 5 (.tmp 5)), .mk none none (.store 1 (.tmp 66) (.tmp 65))]) (.seq (.ops [xS 68 (.cmp .eql (.tmp 36) (xN 37)), xS 67 (.move (.tmp 68))]) (.cond (.tmp 67) (.ops [xS 69 (.fieldAddr 6 (.tmp 2)), xS 70 (.load none (.tmp 69)), xS 71 (.fieldAddr 6 (.tmp 5)), .mk none none (.store 1 (.tmp 71) (.tmp 70))]) (.seq (.ops [xS 73 (.cmp .eql (.tmp 36) (xN 38)), xS 72 (.move (.tmp 73))]) (.cond (.tmp 72) (.ops [xS 74 (.fieldAddr 8 (.tmp 2)), xS 75 (.load none (.tmp 74)), xS 76 (.call 44 [.tmp 75, .cst (.g (.int .i64 (.lit 6)))]), xS 77 (.fieldAddr 8 (.tmp 5)), .mk none none (.store 1 (.tmp 77) (.tmp 76))]) (.seq (.ops [xS 79 (.cmp .eql (.tmp 36) (xN 39)), xS 78 (.move (.tmp 79))]) (.cond (.tmp 78) (.ops [xS 80 (.fieldAddr 3 (.tmp 2)), xS 81 (.load none (.tmp 80)), xS 82 (.call 9 [.tmp 81, .cst (.g (.int .i64 (.lit 4096)))]), xS 83 (.fieldAddr 3 (.tmp 5)), .mk none none (.store 1 (.tmp 83) (.tmp 82))]) .skip)))))))))))))))))))) (.seq (.ops [xS 84 (.load (some 9) (.tmp 5)), .mk none none (.store 9 (.tmp 4) (.tmp 84))]) .ret))))
theorem c19 : compFj Try.prog [1001] 19 = some x19 := by kernel_rfl
def x20 : XF := XF.mk 30 [.tmp 4, .tmp 5] (.seq (.ops [xS 4 (.move (xN 0)), xS 5 (.move (xN 0))]) (.seq (.seq (.ops [xS 6 (.move (.tmp 0)), xS 7 (.move (.tmp 1)), xS 8 (.call 31 [.tmp 6, .tmp 7]), xS 9 (.not (.tmp 8))]) (.cond (.tmp 9) (.seq (.ops [xS 4 (.move (xN 0)), xS 5 (.move (xN 0))]) .ret) .skip)) (.seq (.drawn 3 (.op 0 true (xS 10 (.move (.tmp 0))) (.op 1 true (xS 11 (.nilCheck (.tmp 10))) (.op 2 true (xS 12 (.fieldAddr 0 (.tmp 11))) (.op 3 true (xS 13 (.load none (.tmp 12))) (.op 4 true (xS 14 (.move (.tmp 1))) (.op 5 true (xS 15 (.indexAddr none 4 (.tmp 13) (.tmp 14))) (.op 6 true (xS 16 (.fieldAddr 0 (.tmp 15))) (.op 7 true (xS 17 (.fieldAddr 1 (.tmp 16))) (.op 8 true (xS 18 (.load none (.tmp 17))) (.op 10 true (xS 20 (.move (.tmp 0))) (.op 11 true (xS 21 (.nilCheck (.tmp 20))) (.op 12 true (xS 22 (.fieldAddr 0 (.tmp 21))) (.op 13 true (xS 23 (.load none (.tmp 22))) (.op 14 true (xS 24 (.move (.tmp 1))) (.op 15 true (xS 25 (.indexAddr none 4 (.tmp 23) (.tmp 24))) (.op 16 true (xS 26 (.fieldAddr 2 (.tmp 25))) (.op 17 true (xS 27 (.fieldAddr 1 (.tmp 26))) (.op 18 true (xS 28 (.load none (.tmp 27))) (.op 9 false (xS 19 (.call 45 [.tmp 18])) (.op 19 false (xS 29 (.call 45 [.tmp 28])) (.op 20 false (xS 4 (.move (.tmp 19))) (.op 21 false (xS 5 (.move (.tmp 29))) .nil))))))))))))))))))))))) .ret)))
theorem c20 : compF Try.prog 20 = some x20 := by kernel_rfl
def x21 : XF := XF.mk 11 [.cell 4 (some 9), .tmp 5] (.seq (.ops [xS 4 (.alloc x9z), xS 5 (.move (xB false))]) (.seq (.ops [xS 6 (.move (.tmp 0)), xS 7 (.move (.tmp 1)), xS 8 (.call 42 [.tmp 6, .tmp 7, .cst (.g (.bool (.lit false)))]), xS 9 (.extract (.tmp 8) 0), xS 10 (.extract (.tmp 8) 1), .mk none none (.store 9 (.tmp 4) (.tmp 9)), xS 5 (.move (.tmp 10))]) .ret))
theorem c21 : compF Try.prog 21 = some x21 := by kernel_rfl
def x28 : XF := XF.mk 7 [.tmp 2] (.seq (.ops [xS 2 (.move (.cst (.g .nilp)))]) (.seq (.ops [xS 3 (.move (.tmp 0)), xS 4 (.mnmx true (xN 0) [.tmp 3]), xS 5 (.build [.g .nil, .g (.int .i64 (.lit 0))] [(1, 1, .tmp 4)]), xS 6 (.box (.tmp 5)), xS 2 (.move (.tmp 6))]) .ret))
theorem c28 : compF Try.prog 28 = some x28 := by kernel_rfl
def x29 : XF := XF.mk 7 [.tmp 2] (.seq (.ops [xS 2 (.move (.cst (.g .nilp)))]) (.seq (.ops [xS 3 (.move (.tmp 0)), xS 4 (.mnmx true (xN 0) [.tmp 3]), xS 5 (.build [.g .nil, .g (.int .i64 (.lit 0))] [(1, 1, .tmp 4)]), xS 6 (.box (.tmp 5)), xS 2 (.move (.tmp 6))]) .ret))
theorem c29 : compF Try.prog 29 = some x29 := by kernel_rfl
def x30 : XF := XF.mk 49 [.tmp 2] (.seq (.ops [xS 1 (.box (.tmp 0)), xS 2 (.move (xN 0))]) (.seq (.ops [xS 5 (.fieldAddr 1 (.tmp 1)), xS 6 (.load none (.tmp 5)), xS 7 (.call 53 [.tmp 6, .cst (.g (.int .i64 (.lit 0))), .cst (.g (.int .i64 (.lit 6)))]), xS 8 (.move (.tmp 7)), xG 9 8 true (.fieldAddr 2 (.tmp 1)), xG 10 8 true (.load none (.tmp 9)), xG 11 8 true (.call 53 [.tmp 10, .cst (.g (.int .i64 (.lit 0))), .cst (.g (.int .i64 (.lit 6)))]), xS 12 (.pick (.tmp 8) (.tmp 11) (xB false)), xS 13 (.move (.tmp 12)), xG 14 13 true (.fieldAddr 3 (.tmp 1)), xG 15 13 true (.load none (.tmp 14)), xG 16 13 true (.call 53 [.tmp 15, .cst (.g (.int .i64 (.lit 0))), .cst (.g (.int .i64 (.lit 4096)))]), xS 17 (.pick (.tmp 13) (.tmp 16) (xB false)), xS 3 (.move (.tmp 17))]) (.seq (.ops [xS 18 (.fieldAddr 0 (.tmp 1)), xS 19 (.load none (.tmp 18)), xS 20 (.call 53 [.tmp 19, .cst (.g (.int .i64 (.lit 1))), .cst (.g (.int .i64 (.lit 10)))]), xS 21 (.move (.tmp 20)), xG 22 21 true (.fieldAddr 4 (.tmp 1)), xG 23 21 true (.load none (.tmp 22)), xG 24 21 true (.call 53 [.tmp 23, .cst (.g (.int .i64 (.lit 0))), .cst (.g (.int .i64 (.lit 8)))]), xS 25 (.pick (.tmp 21) (.tmp 24) (xB false)), xS 26 (.move (.tmp 25)), xG 27 26 true (.fieldAddr 5 (.tmp 1)), xG 28 26 true (.load none (.tmp 27)), xG 29 26 true (.call 53 [.tmp 28, .cst (.g (.int .i64 (.lit (-1)))), .cst (.g (.int .i64 (.lit 6)))]), xS 30 (.pick (.tmp 26) (.tmp 29) (xB false)), xS 4 (.move (.tmp 30))]) (.seq (.seq (.ops [xS 31 (.move (.tmp 3)), xS 32 (.not (.tmp 31)), xS 33 (.move (.tmp 32)), xG 34 33 false (.move (.tmp 4)), xG 35 33 false (.not (.tmp 34)), xS 36 (.pick (.tmp 33) (xB true) (.tmp 35)), xS 37 (.move (.tmp 36)), xG 38 37 false (.fieldAddr 6 (.tmp 1)), xG 39 37 false (.load none (.tmp 38)), xG 40 37 false (.call 53 [.tmp 39, .cst (.g (.int .i64 (.lit 0))), .cst (.g (.int .i64 (.lit 3)))]), xG 41 37 false (.not (.tmp 40)), xS 42 (.pick (.tmp 37) (xB true) (.tmp 41)), xS 43 (.move (.tmp 42)), xG 44 43 false (.fieldAddr 8 (.tmp 1)), xG 45 43 false (.load none (.tmp 44)), xG 46 43 false (.len (.tmp 45)), xG 47 43 false (.cmp .gtr (.tmp 46) (xN 4)), xS 48 (.pick (.tmp 43) (xB true) (.tmp 47))]) (.cond (.tmp 48) (.seq (.ops [xS 2 (.move (xN 1))]) .ret) .skip)) (.seq (.ops [xS 2 (.move (xN 0))]) .ret)))))
theorem c30 : compF Try.prog 30 = some x30 := by kernel_rfl
def x31 : XF := XF.mk 16 [.tmp 4] (.seq (.ops [xS 4 (.move (xB false))]) (.seq (.ops [xS 5 (.move (.tmp 1)), xS 6 (.cmp .geq (.tmp 5) (xN 0)), xS 7 (.move (.tmp 6)), xG 8 7 true (.move (.tmp 1)), xG 9 7 true (.move (.tmp 0)), xG 10 7 true (.nilCheck (.tmp 9)), xG 11 7 true (.fieldAddr 0 (.tmp 10)), xG 12 7 true (.load none (.tmp 11)), xG 13 7 true (.len (.tmp 12)), xG 14 7 true (.cmp .lss (.tmp 8) (.tmp 13)), xS 15 (.pick (.tmp 7) (.tmp 14) (xB false)), xS 4 (.move (.tmp 15))]) .ret))
theorem c31 : compF Try.prog 31 = some x31 := by kernel_rfl
def x32 : XF := XF.mk 10 [.cell 4 (some 2)] (.seq (.ops [xS 2 (.box (.tmp 0)), xS 4 (.alloc [.g .nilp, .g .nilp])]) (.seq (.seq (.ops [xS 5 (.move (.tmp 1))]) (.cond (.tmp 5) (.seq (.ops [xS 6 (.fieldAddr 0 (.tmp 2)), xS 7 (.load (some 2) (.tmp 6)), .mk none none (.store 2 (.tmp 4) (.tmp 7))]) .ret) .skip)) (.seq (.ops [xS 8 (.fieldAddr 2 (.tmp 2)), xS 9 (.load (some 2) (.tmp 8)), .mk none none (.store 2 (.tmp 4) (.tmp 9))]) .ret)))
theorem c32 : compF Try.prog 32 = some x32 := by kernel_rfl
def x33 : XF := XF.mk 9 [.tmp 2] (.seq (.ops [xS 2 (.move (xB false))]) (.seq (.ops [xS 3 (.move (.tmp 0)), xS 4 (.cmp .geq (.tmp 3) (xN 1)), xS 5 (.move (.tmp 4)), xG 6 5 true (.move (.tmp 0)), xG 7 5 true (.cmp .leq (.tmp 6) (xN 6)), xS 8 (.pick (.tmp 5) (.tmp 7) (xB false)), xS 2 (.move (.tmp 8))]) .ret))
theorem c33 : compF Try.prog 33 = some x33 := by kernel_rfl
def x34 : XF := XF.mk 19 [.tmp 4] (.seq (.ops [xS 3 (.box (.tmp 1)), xS 4 (.move (xN 0))]) (.seq (.seq (.ops [xS 5 (.move (.tmp 0)), xS 6 (.call 43 [.tmp 5]), xS 7 (.cmp .eql (.tmp 6) (xN 0))]) (.cond (.tmp 7) (.seq (.ops [xS 4 (.move (xN 5))]) .ret) .skip)) (.seq (.drawn 3 (.op 0 true (xS 8 (.move (.tmp 0))) (.op 1 true (xS 9 (.move (.tmp 0))) (.op 2 true (xS 10 (.nilCheck (.tmp 9))) (.op 3 true (xS 11 (.fieldAddr 0 (.tmp 10))) (.op 5 true (xS 13 (.load (some 9) (.tmp 3))) (.alt (.op 4 false (xS 12 (.load none (.tmp 11))) (.op 6 false (xS 14 (.call 54 [.tmp 13])) (.op 7 false (xS 15 (.buildSlice 9 x9z 1 [(0, .tmp 14)])) (.op 8 false (xS 16 (.append 9 88 x9z (.tmp 12) (.tmp 15))) (.op 9 false (xS 17 (.nilCheck (.tmp 8))) (.op 10 false (xS 18 (.fieldAddr 0 (.tmp 17))) (.op 11 false (.mk none none (.store 1 (.tmp 18) (.tmp 16))) .nil))))))) (.op 6 false (xS 14 (.call 54 [.tmp 13])) (.alt (.op 4 false (xS 12 (.load none (.tmp 11))) (.op 7 false (xS 15 (.buildSlice 9 x9z 1 [(0, .tmp 14)])) (.op 8 false (xS 16 (.append 9 88 x9z (.tmp 12) (.tmp 15))) (.op 9 false (xS 17 (.nilCheck (.tmp 8))) (.op 10 false (xS 18 (.fieldAddr 0 (.tmp 17))) (.op 11 false (.mk none none (.store 1 (.tmp 18) (.tmp 16))) .nil)))))) (.op 7 false (xS 15 (.buildSlice 9 x9z 1 [(0, .tmp 14)])) (.op 4 false (xS 12 (.load none (.tmp 11))) (.op 8 false (xS 16 (.append 9 88 x9z (.tmp 12) (.tmp 15))) (.op 9 false (xS 17 (.nilCheck (.tmp 8))) (.op 10 false (xS 18 (.fieldAddr 0 (.tmp 17))) (.op 11 false (.mk none none (.store 1 (.tmp 18) (.tmp 16))) .nil))))))))))))))) (.seq (.ops [xS 4 (.move (xN 0))]) .ret))))
theorem c34 : compF Try.prog 34 = some x34 := by kernel_rfl
def x35 : XF := XF.mk 24 [.tmp 2] (.seq (.ops [xS 2 (.move (.cst (.g .nil)))]) (.seq (.ops [xS 3 (.move (.cst (.g .nil)))]) (.seq (.seq (.ops [xS 6 (.move (.tmp 0)), xS 7 (.nilCheck (.tmp 6)), xS 8 (.fieldAddr 0 (.tmp 7)), xS 9 (.load none (.tmp 8)), xS 10 (.len (.tmp 9)), xS 11 (.move (xN 0))]) (.block 0 (.loop (.seq (.ops [xS 12 (.cmp .lss (.tmp 11) (.tmp 10))]) (.seq (.cond (.tmp 12) .skip (.exit 0)) (.seq (.block 1 (.seq (.ops [xS 13 (.indexAddr none 4 (.tmp 9) (.tmp 11)), xS 14 (.load (some 4) (.tmp 13)), xS 5 (.alloc [.g .nilp, .g .nilp, .g .nilp, .g .nilp]), .mk none none (.store 4 (.tmp 5) (.tmp 14))]) (.ops [xS 15 (.move (.tmp 3)), xS 16 (.fieldAddr 0 (.tmp 5)), xS 17 (.load (some 2) (.tmp 16)), xS 18 (.fieldAddr 2 (.tmp 5)), xS 19 (.load (some 2) (.tmp 18)), xS 20 (.buildSlice 2 [.g .nilp, .g .nilp] 2 [(0, .tmp 17), (1, .tmp 19)]), xS 21 (.append 2 16 [.g .nilp, .g .nilp] (.tmp 15) (.tmp 20)), xS 3 (.move (.tmp 21))]))) (.ops [xS 22 (.bin .add (.tmp 11) (xN 1)), xS 11 (.move (.tmp 22))]))))))) (.seq (.ops [xS 23 (.move (.tmp 3)), xS 2 (.move (.tmp 23))]) .ret))))
theorem c35 : compF Try.prog 35 = some x35 := by kernel_rfl
def x36 : XF := XF.mk 8 [.tmp 2] (.seq (.ops [xS 2 (.move (xN 0))]) (.seq (.ops [xS 3 (.move (.tmp 0)), xS 4 (.nilCheck (.tmp 3)), xS 5 (.fieldAddr 0 (.tmp 4)), xS 6 (.load none (.tmp 5)), xS 7 (.len (.tmp 6)), xS 2 (.move (.tmp 7))]) .ret))
theorem c36 : compF Try.prog 36 = some x36 := by kernel_rfl
def x37 : XF := XF.mk 34 [.cell 4 (some 2), .tmp 5, .tmp 6] (.seq (.ops [xS 4 (.alloc [.g .nilp, .g .nilp]), xS 5 (.move (xN 0)), xS 6 (.move (xB false))]) (.seq (.seq (.ops [xS 9 (.move (.tmp 0)), xS 10 (.call 35 [.tmp 9]), xS 11 (.len (.tmp 10)), xS 12 (.move (xN 0))]) (.block 0 (.loop (.seq (.ops [xS 13 (.cmp .lss (.tmp 12) (.tmp 11))]) (.seq (.cond (.tmp 13) .skip (.exit 0)) (.seq (.block 1 (.seq (.ops [xS 14 (.indexAddr none 2 (.tmp 10) (.tmp 12)), xS 15 (.load (some 2) (.tmp 14)), xS 8 (.alloc [.g .nilp, .g .nilp]), .mk none none (.store 2 (.tmp 8) (.tmp 15))]) (.seq (.seq (.ops [xS 16 (.move (.tmp 1)), xS 17 (.cmp .geq (.tmp 16) (xN 0)), xS 18 (.move (.tmp 17)), xG 19 18 true (.move (.tmp 1)), xG 20 18 true (.fieldAddr 0 (.tmp 8)), xG 21 18 true (.load none (.tmp 20)), xG 22 18 true (.call 36 [.tmp 21]), xG 23 18 true (.cmp .lss (.tmp 19) (.tmp 22)), xS 24 (.pick (.tmp 18) (.tmp 23) (xB false))]) (.cond (.tmp 24) (.seq (.ops [xS 25 (.load (some 2) (.tmp 8)), xS 26 (.move (.tmp 1)), .mk none none (.store 2 (.tmp 4) (.tmp 25)), xS 5 (.move (.tmp 26)), xS 6 (.move (xB true))]) .ret) .skip)) (.ops [xS 27 (.move (.tmp 1)), xS 28 (.fieldAddr 0 (.tmp 8)), xS 29 (.load none (.tmp 28)), xS 30 (.call 36 [.tmp 29]), xS 31 (.bin .sub (.tmp 27) (.tmp 30)), xS 1 (.move (.tmp 31))])))) (.ops [xS 32 (.bin .add (.tmp 12) (xN 1)), xS 12 (.move (.tmp 32))]))))))) (.seq (.ops [xS 33 (.build [.g .nilp, .g .nilp] []), .mk none none (.store 2 (.tmp 4) (.tmp 33)), xS 5 (.move (xN 0)), xS 6 (.move (xB false))]) .ret)))
theorem c37 : compF Try.prog 37 = some x37 := by kernel_rfl
def x38 : XF := XF.mk 26 [.cell 4 (some 9), .tmp 5] (.seq (.ops [xS 4 (.alloc x9z), xS 5 (.move (xB false))]) (.seq (.seq (.ops [xS 6 (.move (.tmp 1)), xS 7 (.cmp .lss (.tmp 6) (xN 0)), xS 8 (.move (.tmp 7)), xG 9 8 false (.move (.tmp 1)), xG 10 8 false (.move (.tmp 0)), xG 11 8 false (.nilCheck (.tmp 10)), xG 12 8 false (.fieldAddr 0 (.tmp 11)), xG 13 8 false (.load none (.tmp 12)), xG 14 8 false (.len (.tmp 13)), xG 15 8 false (.cmp .geq (.tmp 9) (.tmp 14)), xS 16 (.pick (.tmp 8) (xB true) (.tmp 15))]) (.cond (.tmp 16) (.seq (.ops [xS 17 (.build x9z []), .mk none none (.store 9 (.tmp 4) (.tmp 17)), xS 5 (.move (xB false))]) .ret) .skip)) (.seq (.ops [xS 18 (.move (.tmp 0)), xS 19 (.nilCheck (.tmp 18)), xS 20 (.fieldAddr 0 (.tmp 19)), xS 21 (.load none (.tmp 20)), xS 22 (.move (.tmp 1)), xS 23 (.indexAddr none 9 (.tmp 21) (.tmp 22)), xS 24 (.load (some 9) (.tmp 23)), xS 25 (.call 54 [.tmp 24]), .mk none none (.store 9 (.tmp 4) (.tmp 25)), xS 5 (.move (xB true))]) .ret)))
theorem c38 : compF Try.prog 38 = some x38 := by kernel_rfl
def x39 : XF := XF.mk 25 [.cell 6 (some 9), .tmp 7] (.seq (.ops [xS 3 (.box (.tmp 0)), xS 6 (.alloc x9z), xS 7 (.move (xN 0))]) (.seq (.ops [xS 11 (.load (some 9) (.tmp 3)), xS 12 (.call 55 [.tmp 11]), xS 10 (.move (.tmp 12)), xS 13 (.extract (.tmp 10) 0), xS 14 (.extract (.tmp 10) 1), xS 8 (.move (.tmp 13)), xS 9 (.move (.tmp 14))]) (.seq (.seq (.ops [xS 15 (.move (.tmp 9)), xS 16 (.cmp .neq (.tmp 15) (xN 0))]) (.cond (.tmp 16) (.seq (.ops [xS 17 (.build x9z []), .mk none none (.store 9 (.tmp 6) (.tmp 17)), xS 7 (.move (xN 2))]) .ret) .skip)) (.seq (.ops [xS 18 (.move (.tmp 8)), xS 19 (.move (.tmp 1)), xS 20 (.move (.tmp 2)), xS 21 (.call 57 [.tmp 18, .tmp 19, .tmp 20]), xS 22 (.call 56 [.tmp 21]), xS 23 (.extract (.tmp 22) 0), xS 24 (.extract (.tmp 22) 1), .mk none none (.store 9 (.tmp 6) (.tmp 23)), xS 7 (.move (.tmp 24))]) .ret))))
theorem c39 : compF Try.prog 39 = some x39 := by kernel_rfl
def x40 : XF := XF.mk 19 [.tmp 4] (.seq (.ops [xS 3 (.box (.tmp 1)), xS 4 (.move (xN 0))]) (.seq (.seq (.ops [xS 5 (.move (.tmp 0)), xS 6 (.call 58 [.tmp 5]), xS 7 (.cmp .eql (.tmp 6) (xN 0))]) (.cond (.tmp 7) (.seq (.ops [xS 4 (.move (xN 5))]) .ret) .skip)) (.seq (.drawn 3 (.op 0 true (xS 8 (.move (.tmp 0))) (.op 1 true (xS 9 (.move (.tmp 0))) (.op 2 true (xS 10 (.nilCheck (.tmp 9))) (.op 3 true (xS 11 (.fieldAddr 0 (.tmp 10))) (.op 5 true (xS 13 (.load (some 9) (.tmp 3))) (.alt (.op 4 false (xS 12 (.load none (.tmp 11))) (.op 6 false (xS 14 (.call 59 [.tmp 13])) (.op 7 false (xS 15 (.buildSlice 9 x9z 1 [(0, .tmp 14)])) (.op 8 false (xS 16 (.append 9 88 x9z (.tmp 12) (.tmp 15))) (.op 9 false (xS 17 (.nilCheck (.tmp 8))) (.op 10 false (xS 18 (.fieldAddr 0 (.tmp 17))) (.op 11 false (.mk none none (.store 1 (.tmp 18) (.tmp 16))) .nil))))))) (.op 6 false (xS 14 (.call 59 [.tmp 13])) (.alt (.op 4 false (xS 12 (.load none (.tmp 11))) (.op 7 false (xS 15 (.buildSlice 9 x9z 1 [(0, .tmp 14)])) (.op 8 false (xS 16 (.append 9 88 x9z (.tmp 12) (.tmp 15))) (.op 9 false (xS 17 (.nilCheck (.tmp 8))) (.op 10 false (xS 18 (.fieldAddr 0 (.tmp 17))) (.op 11 false (.mk none none (.store 1 (.tmp 18) (.tmp 16))) .nil)))))) (.op 7 false (xS 15 (.buildSlice 9 x9z 1 [(0, .tmp 14)])) (.op 4 false (xS 12 (.load none (.tmp 11))) (.op 8 false (xS 16 (.append 9 88 x9z (.tmp 12) (.tmp 15))) (.op 9 false (xS 17 (.nilCheck (.tmp 8))) (.op 10 false (xS 18 (.fieldAddr 0 (.tmp 17))) (.op 11 false (.mk none none (.store 1 (.tmp 18) (.tmp 16))) .nil))))))))))))))) (.seq (.ops [xS 4 (.move (xN 0))]) .ret))))
theorem c40 : compF Try.prog 40 = some x40 := by kernel_rfl
def x41 : XF := XF.mk 28 [.cell 4 (some 9), .tmp 5] (.seq (.ops [xS 4 (.alloc x9z), xS 5 (.move (xB false))]) (.seq (.ops [xS 9 (.move (.tmp 0)), xS 10 (.move (.tmp 1)), xS 11 (.call 38 [.tmp 9, .tmp 10]), xS 8 (.move (.tmp 11)), xS 12 (.extract (.tmp 8) 0), xS 13 (.extract (.tmp 8) 1), xS 6 (.alloc x9z), .mk none none (.store 9 (.tmp 6) (.tmp 12)), xS 7 (.move (.tmp 13))]) (.seq (.seq (.ops [xS 14 (.move (.tmp 7))]) (.cond (.tmp 14) (.ops [xS 15 (.move (.tmp 0)), xS 16 (.move (.tmp 0)), xS 17 (.nilCheck (.tmp 16)), xS 18 (.fieldAddr 0 (.tmp 17)), xS 19 (.load none (.tmp 18)), xS 20 (.move (.tmp 1)), xS 21 (.move (.tmp 1)), xS 22 (.bin .add (.tmp 21) (xN 1)), xS 23 (.call 60 [.tmp 19, .tmp 20, .tmp 22]), xS 24 (.nilCheck (.tmp 15)), xS 25 (.fieldAddr 0 (.tmp 24)), .mk none none (.store 1 (.tmp 25) (.tmp 23))]) .skip)) (.seq (.ops [xS 26 (.load (some 9) (.tmp 6)), xS 27 (.move (.tmp 7)), .mk none none (.store 9 (.tmp 4) (.tmp 26)), xS 5 (.move (.tmp 27))]) .ret))))
theorem c41 : compF Try.prog 41 = some x41 := by kernel_rfl
def x42 : XF := XF.mk 26 [.cell 6 (some 9), .tmp 7] (.seq (.ops [xS 6 (.alloc x9z), xS 7 (.move (xB false))]) (.seq (.seq (.ops [xS 8 (.move (.tmp 0)), xS 9 (.move (.tmp 1)), xS 10 (.call 31 [.tmp 8, .tmp 9]), xS 11 (.not (.tmp 10))]) (.cond (.tmp 11) (.seq (.ops [xS 12 (.build x9z []), .mk none none (.store 9 (.tmp 6) (.tmp 12)), xS 7 (.move (xB false))]) .ret) .skip)) (.seq (.ops [xS 13 (.move (.tmp 0)), xS 14 (.nilCheck (.tmp 13)), xS 15 (.fieldAddr 0 (.tmp 14)), xS 16 (.load none (.tmp 15)), xS 17 (.move (.tmp 1)), xS 18 (.indexAddr none 4 (.tmp 16) (.tmp 17)), xS 19 (.load (some 4) (.tmp 18)), xS 20 (.move (.tmp 2)), xS 21 (.call 32 [.tmp 19, .tmp 20]), xS 22 (.field 1 none (.tmp 21)), xS 23 (.call 61 [.tmp 22]), xS 24 (.extract (.tmp 23) 0), xS 25 (.extract (.tmp 23) 1), .mk none none (.store 9 (.tmp 6) (.tmp 24)), xS 7 (.move (.tmp 25))]) .ret)))
theorem c42 : compF Try.prog 42 = some x42 := by kernel_rfl
def x43 : XF := XF.mk 13 [.tmp 2] (.seq (.ops [xS 2 (.move (xN 0))]) (.seq (.drawn 1 (.op 0 true (xS 3 (.move (.tmp 0))) (.op 1 true (xS 4 (.nilCheck (.tmp 3))) (.op 2 true (xS 5 (.fieldAddr 1 (.tmp 4))) (.op 3 true (xS 6 (.load none (.tmp 5))) (.op 4 false (xS 7 (.move (.tmp 0))) (.op 5 false (xS 8 (.nilCheck (.tmp 7))) (.op 6 false (xS 9 (.fieldAddr 0 (.tmp 8))) (.op 7 false (xS 10 (.load none (.tmp 9))) (.op 8 false (xS 11 (.len (.tmp 10))) (.op 9 false (xS 12 (.bin .sub (.tmp 6) (.tmp 11))) (.op 10 false (xS 2 (.move (.tmp 12))) .nil)))))))))))) .ret))
theorem c43 : compF Try.prog 43 = some x43 := by kernel_rfl
def x44 : XF := XF.mk 12 [.tmp 4] (.seq (.ops [xS 4 (.move (.cst (.g .nil)))]) (.seq (.ops [xS 5 (.move (.tmp 0)), xS 6 (.move (.tmp 0)), xS 7 (.len (.tmp 6)), xS 8 (.move (.tmp 1)), xS 9 (.mnmx false (.tmp 7) [.tmp 8]), xS 10 (.slice 1 (.tmp 5) none (some (.tmp 9))), xS 11 (.call 62 [.tmp 10]), xS 4 (.move (.tmp 11))]) .ret))
theorem c44 : compF Try.prog 44 = some x44 := by kernel_rfl
def x45 : XF := XF.mk 8 [.tmp 2] (.seq (.ops [xS 2 (.move (xN 0))]) (.seq (.ops [xS 3 (.move (.tmp 0)), xS 4 (.nilCheck (.tmp 3)), xS 5 (.fieldAddr 0 (.tmp 4)), xS 6 (.load none (.tmp 5)), xS 7 (.len (.tmp 6)), xS 2 (.move (.tmp 7))]) .ret))
theorem c45 : compF Try.prog 45 = some x45 := by kernel_rfl
def x53 : XF := XF.mk 15 [.tmp 6] (.seq (.ops [xS 6 (.move (xB false))]) (.seq (.ops [xS 7 (.move (.tmp 0)), xS 8 (.move (.tmp 1)), xS 9 (.cmp .geq (.tmp 7) (.tmp 8)), xS 10 (.move (.tmp 9)), xG 11 10 true (.move (.tmp 0)), xG 12 10 true (.move (.tmp 2)), xG 13 10 true (.cmp .lss (.tmp 11) (.tmp 12)), xS 14 (.pick (.tmp 10) (.tmp 13) (xB false)), xS 6 (.move (.tmp 14))]) .ret))
theorem c53 : compF Try.prog 53 = some x53 := by kernel_rfl
def x54 : XF := XF.mk 8 [.cell 2 (some 9)] (.seq (.ops [xS 1 (.box (.tmp 0)), xS 2 (.alloc x9z)]) (.seq (.ops [xS 3 (.fieldAddr 8 (.tmp 1)), xS 4 (.load none (.tmp 3)), xS 5 (.call 66 [.tmp 4]), xS 6 (.fieldAddr 8 (.tmp 1)), .mk none none (.store 1 (.tmp 6) (.tmp 5))]) (.seq (.ops [xS 7 (.load (some 9) (.tmp 1)), .mk none none (.store 9 (.tmp 2) (.tmp 7))]) .ret)))
theorem c54 : compF Try.prog 54 = some x54 := by kernel_rfl
def x55 : XF := XF.mk 61 [.tmp 2, .tmp 3] (.seq (.ops [xS 1 (.box (.tmp 0)), xS 2 (.move (.cst (.g .nil))), xS 3 (.move (xN 0))]) (.seq (.seq (.ops [xS 8 (.load (some 9) (.tmp 1)), xS 9 (.call 30 [.tmp 8]), xS 4 (.move (.tmp 9))]) (.seq (.ops [xS 10 (.move (.tmp 4)), xS 11 (.cmp .neq (.tmp 10) (xN 0))]) (.cond (.tmp 11) (.seq (.ops [xS 12 (.move (.tmp 4)), xS 2 (.move (.cst (.g .nil))), xS 3 (.move (.tmp 12))]) .ret) .skip))) (.seq (.drawn 4 (.op 0 true (xS 13 (.fieldAddr 0 (.tmp 1))) (.op 1 true (xS 14 (.load none (.tmp 13))) (.op 2 true (xS 15 (.conv .u8 (.tmp 14))) (.op 3 true (xS 16 (.fieldAddr 1 (.tmp 1))) (.op 4 true (xS 17 (.load none (.tmp 16))) (.op 5 true (xS 18 (.conv .u8 (.tmp 17))) (.op 6 true (xS 19 (.fieldAddr 2 (.tmp 1))) (.op 7 true (xS 20 (.load none (.tmp 19))) (.op 8 true (xS 21 (.conv .u8 (.tmp 20))) (.op 9 true (xS 22 (.fieldAddr 3 (.tmp 1))) (.op 10 true (xS 23 (.load none (.tmp 22))) (.op 11 true (xS 24 (.shift .shr (.tmp 23) (.cst (.g (.int .u64 (.lit 8)))))) (.op 12 true (xS 25 (.conv .u8 (.tmp 24))) (.op 13 true (xS 26 (.fieldAddr 3 (.tmp 1))) (.op 14 true (xS 27 (.load none (.tmp 26))) (.op 15 true (xS 28 (.conv .u8 (.tmp 27))) (.op 16 true (xS 29 (.fieldAddr 4 (.tmp 1))) (.op 17 true (xS 30 (.load none (.tmp 29))) (.op 18 true (xS 31 (.conv .u8 (.tmp 30))) (.op 19 true (xS 32 (.fieldAddr 5 (.tmp 1))) (.op 20 true (xS 33 (.load none (.tmp 32))) (.op 21 true (xS 34 (.bin .add (.tmp 33) (xN 1))) (.op 22 true (xS 35 (.conv .u8 (.tmp 34))) (.op 23 true (xS 36 (.fieldAddr 6 (.tmp 1))) (.op 24 true (xS 37 (.load none (.tmp 36))) (.op 25 true (xS 38 (.conv .u8 (.tmp 37))) (.op 26 true (xS 39 (.fieldAddr 7 (.tmp 1))) (.op 27 true (xS 40 (.load none (.tmp 39))) (.op 29 true (xS 42 (.fieldAddr 8 (.tmp 1))) (.op 30 true (xS 43 (.load none (.tmp 42))) (.op 31 true (xS 44 (.len (.tmp 43))) (.op 32 true (xS 45 (.conv .u8 (.tmp 44))) (.op 28 false (xS 41 (.call 67 [.tmp 40])) (.op 33 false (xS 46 (.buildSlice 1 [.g (.int .u8 (.lit 0))] 10 [(0, .tmp 15), (1, .tmp 18), (2, .tmp 21), (3, .tmp 25), (4, .tmp 28), (5, .tmp 31), (6, .tmp 35), (7, .tmp 38), (8, .tmp 41), (9, .tmp 45)])) (.op 34 false (xS 5 (.move (.tmp 46))) .nil)))))))))))))))))))))))))))))))))))) (.seq (.seq (.ops [xS 47 (.fieldAddr 8 (.tmp 1)), xS 48 (.load none (.tmp 47)), xS 49 (.len (.tmp 48)), xS 50 (.move (xN 0))]) (.block 0 (.loop (.seq (.ops [xS 51 (.cmp .lss (.tmp 50) (.tmp 49))]) (.seq (.cond (.tmp 51) .skip (.exit 0)) (.seq (.block 1 (.seq (.ops [xS 52 (.indexAddr none 1 (.tmp 48) (.tmp 50)), xS 53 (.load none (.tmp 52)), xS 7 (.move (.tmp 53))]) (.ops [xS 54 (.move (.tmp 5)), xS 55 (.move (.tmp 7)), xS 56 (.call 68 [.tmp 55]), xS 57 (.append 1 1 [.g (.int .u8 (.lit 0))] (.tmp 54) (.tmp 56)), xS 5 (.move (.tmp 57))]))) (.ops [xS 58 (.bin .add (.tmp 50) (xN 1)), xS 50 (.move (.tmp 58))]))))))) (.seq (.ops [xS 59 (.move (.tmp 5)), xS 60 (.call 69 [.tmp 59]), xS 2 (.move (.tmp 60)), xS 3 (.move (xN 0))]) .ret)))))
theorem c55 : compF Try.prog 55 = some x55 := by kernel_rfl
def x56b : X := .block 1 (.drawn 7 (.op 0 true (xS 78 (.fieldAddr 8 (.tmp 6))) (.op 2 true (xS 80 (.move (.tmp 7))) (.alt (.op 1 false (xS 79 (.load none (.tmp 78))) (.op 3 false (xS 81 (.call 72 [.tmp 80])) (.op 4 false (xS 82 (.buildSlice 1 [.g (.int .i64 (.lit 0))] 1 [(0, .tmp 81)])) (.op 5 false (xS 83 (.append 1 8 [.g (.int .i64 (.lit 0))] (.tmp 79) (.tmp 82))) (.op 6 false (xS 84 (.fieldAddr 8 (.tmp 6))) (.op 7 false (.mk none none (.store 1 (.tmp 84) (.tmp 83))) .nil)))))) (.op 3 false (xS 81 (.call 72 [.tmp 80])) (.alt (.op 1 false (xS 79 (.load none (.tmp 78))) (.op 4 false (xS 82 (.buildSlice 1 [.g (.int .i64 (.lit 0))] 1 [(0, .tmp 81)])) (.op 5 false (xS 83 (.append 1 8 [.g (.int .i64 (.lit 0))] (.tmp 79) (.tmp 82))) (.op 6 false (xS 84 (.fieldAddr 8 (.tmp 6))) (.op 7 false (.mk none none (.store 1 (.tmp 84) (.tmp 83))) .nil))))) (.op 4 false (xS 82 (.buildSlice 1 [.g (.int .i64 (.lit 0))] 1 [(0, .tmp 81)])) (.op 1 false (xS 79 (.load none (.tmp 78))) (.op 5 false (xS 83 (.append 1 8 [.g (.int .i64 (.lit 0))] (.tmp 79) (.tmp 82))) (.op 6 false (xS 84 (.fieldAddr 8 (.tmp 6))) (.op 7 false (.mk none none (.store 1 (.tmp 84) (.tmp 83))) .nil)))))))))))
theorem c56b : comp Try.prog [] 1000 (rfBody (rfOf Try.prog 56)) = some x56b := by kernel_rfl
def x56 (rf : Code) : XF := XF.mk 100 [.cell 2 (some 9), .tmp 3] (.seq (.ops [xS 2 (.alloc x9z), xS 3 (.move (xN 0))]) (.seq (.ops [xS 11 (.move (.tmp 0)), xS 12 (.call 70 [.tmp 11]), xS 10 (.move (.tmp 12)), xS 13 (.extract (.tmp 10) 0), xS 14 (.extract (.tmp 10) 1), xS 4 (.move (.tmp 13)), xS 5 (.move (.tmp 14))]) (.seq (.seq (.ops [xS 15 (.move (.tmp 5)), xS 16 (.not (.tmp 15)), xS 17 (.move (.tmp 16)), xG 18 17 false (.move (.tmp 4)), xG 19 17 false (.len (.tmp 18)), xG 20 17 false (.cmp .lss (.tmp 19) (xN 10)), xS 21 (.pick (.tmp 17) (xB true) (.tmp 20)), xS 22 (.move (.tmp 21)), xG 23 22 false (.move (.tmp 4)), xG 24 22 false (.len (.tmp 23)), xG 25 22 false (.move (.tmp 4)), xG 26 22 false (.indexAddr none 1 (.tmp 25) (xN 9)), xG 27 22 false (.load none (.tmp 26)), xG 28 22 false (.conv .i64 (.tmp 27)), xG 29 22 false (.bin .mul (xN 8) (.tmp 28)), xG 30 22 false (.bin .add (xN 10) (.tmp 29)), xG 31 22 false (.cmp .neq (.tmp 24) (.tmp 30)), xS 32 (.pick (.tmp 22) (xB true) (.tmp 31))]) (.cond (.tmp 32) (.seq (.ops [xS 33 (.build x9z []), .mk none none (.store 9 (.tmp 2) (.tmp 33)), xS 3 (.move (xN 2))]) .ret) .skip)) (.seq (.drawn 4 (.op 0 true (xS 34 (.move (.tmp 4))) (.op 1 true (xS 35 (.indexAddr none 1 (.tmp 34) (xN 0))) (.op 2 true (xS 36 (.load none (.tmp 35))) (.op 3 true (xS 37 (.conv .i64 (.tmp 36))) (.op 4 true (xS 38 (.move (.tmp 4))) (.op 5 true (xS 39 (.indexAddr none 1 (.tmp 38) (xN 1))) (.op 6 true (xS 40 (.load none (.tmp 39))) (.op 7 true (xS 41 (.conv .i64 (.tmp 40))) (.op 8 true (xS 42 (.move (.tmp 4))) (.op 9 true (xS 43 (.indexAddr none 1 (.tmp 42) (xN 2))) (.op 10 true (xS 44 (.load none (.tmp 43))) (.op 11 true (xS 45 (.conv .i64 (.tmp 44))) (.op 12 true (xS 46 (.move (.tmp 4))) (.op 13 true (xS 47 (.indexAddr none 1 (.tmp 46) (xN 3))) (.op 14 true (xS 48 (.load none (.tmp 47))) (.op 15 true (xS 49 (.conv .i64 (.tmp 48))) (.op 16 true (xS 50 (.shift .shl (.tmp 49) (.cst (.g (.int .u64 (.lit 8)))))) (.op 17 true (xS 51 (.move (.tmp 4))) (.op 18 true (xS 52 (.indexAddr none 1 (.tmp 51) (xN 4))) (.op 19 true (xS 53 (.load none (.tmp 52))) (.op 20 true (xS 54 (.conv .i64 (.tmp 53))) (.op 21 true (xS 55 (.bin .or (.tmp 50) (.tmp 54))) (.op 22 true (xS 56 (.move (.tmp 4))) (.op 23 true (xS 57 (.indexAddr none 1 (.tmp 56) (xN 5))) (.op 24 true (xS 58 (.load none (.tmp 57))) (.op 25 true (xS 59 (.conv .i64 (.tmp 58))) (.op 26 true (xS 60 (.move (.tmp 4))) (.op 27 true (xS 61 (.indexAddr none 1 (.tmp 60) (xN 6))) (.op 28 true (xS 62 (.load none (.tmp 61))) (.op 29 true (xS 63 (.conv .i64 (.tmp 62))) (.op 30 true (xS 64 (.bin .sub (.tmp 63) (xN 1))) (.op 31 true (xS 65 (.move (.tmp 4))) (.op 32 true (xS 66 (.indexAddr none 1 (.tmp 65) (xN 7))) (.op 33 true (xS 67 (.load none (.tmp 66))) (.op 34 true (xS 68 (.conv .i64 (.tmp 67))) (.op 35 true (xS 69 (.move (.tmp 4))) (.op 36 true (xS 70 (.indexAddr none 1 (.tmp 69) (xN 8))) (.op 37 true (xS 71 (.load none (.tmp 70))) (.op 38 true (xS 72 (.cmp .eql (.tmp 71) (.cst (.g (.int .u8 (.lit (Int.ofNat 1))))))) (.op 39 true (xS 73 (.build x9z [(0, 1, .tmp 37), (1, 1, .tmp 41), (2, 1, .tmp 45), (3, 1, .tmp 55), (4, 1, .tmp 59), (5, 1, .tmp 64), (6, 1, .tmp 68), (7, 1, .tmp 72)])) (.op 40 false (xS 6 (.alloc x9z)) (.op 41 false (.mk none none (.store 9 (.tmp 6) (.tmp 73))) .nil))))))))))))))))))))))))))))))))))))))))))) (.seq (.seq (.ops [xS 74 (.move (.tmp 4)), xS 75 (.slice 1 (.tmp 74) (some (xN 10)) none), xS 76 (.call 71 [.tmp 75, .cst (.g (.int .i64 (.lit 8)))])]) (.block 0 (.rfun rf))) (.seq (.ops [xS 86 (.load (some 9) (.tmp 6)), xS 87 (.call 55 [.tmp 86]), xS 85 (.move (.tmp 87)), xS 88 (.extract (.tmp 85) 0), xS 89 (.extract (.tmp 85) 1), xS 8 (.move (.tmp 88)), xS 9 (.move (.tmp 89))]) (.seq (.seq (.ops [xS 90 (.move (.tmp 9)), xS 91 (.cmp .neq (.tmp 90) (xN 0)), xS 92 (.move (.tmp 91)), xG 93 92 false (.move (.tmp 8)), xG 94 92 false (.move (.tmp 0)), xG 95 92 false (.call 73 [.tmp 93, .tmp 94]), xG 96 92 false (.not (.tmp 95)), xS 97 (.pick (.tmp 92) (xB true) (.tmp 96))]) (.cond (.tmp 97) (.seq (.ops [xS 98 (.build x9z []), .mk none none (.store 9 (.tmp 2) (.tmp 98)), xS 3 (.move (xN 2))]) .ret) .skip)) (.seq (.ops [xS 99 (.load (some 9) (.tmp 6)), .mk none none (.store 9 (.tmp 2) (.tmp 99)), xS 3 (.move (xN 0))]) .ret))))))))
theorem c56 (rf : Code) (h : rf = rfOf Try.prog 56) : compF Try.prog 56 = some (x56 rf) := by subst h; kernel_rfl
def x57 : XF := XF.mk 45 [.tmp 6] (.seq (.ops [xS 6 (.move (.cst (.g .nil)))]) (.seq (.ops [xS 10 (.move (.tmp 0)), xS 11 (.call 74 [.tmp 10]), xS 7 (.move (.tmp 11))]) (.seq (.seq (.ops [xS 12 (.move (.tmp 7)), xS 13 (.len (.tmp 12)), xS 14 (.move (xN 0))]) (.block 0 (.loop (.seq (.ops [xS 15 (.cmp .lss (.tmp 14) (.tmp 13))]) (.seq (.cond (.tmp 15) .skip (.exit 0)) (.seq (.block 1 (.seq (.ops [xS 16 (.move (.tmp 14)), xS 8 (.move (.tmp 16))]) (.seq (.ops [xS 17 (.move (.tmp 8)), xS 18 (.bin .mul (xN 8) (.tmp 17)), xS 19 (.move (.tmp 1)), xS 20 (.bin .sub (.tmp 18) (.tmp 19)), xS 9 (.move (.tmp 20))]) (.seq (.seq (.ops [xS 21 (.move (.tmp 9)), xS 22 (.cmp .leq (.tmp 21) (xN (-8))), xS 23 (.move (.tmp 22)), xG 24 23 false (.move (.tmp 9)), xG 25 23 false (.cmp .geq (.tmp 24) (xN 16)), xS 26 (.pick (.tmp 23) (xB true) (.tmp 25))]) (.cond (.tmp 26) (.exit 1) .skip)) (.drawn 7 (.op 0 true (xS 27 (.move (.tmp 7))) (.op 1 true (xS 28 (.move (.tmp 8))) (.op 2 true (xS 29 (.move (.tmp 7))) (.op 3 true (xS 30 (.move (.tmp 8))) (.op 4 true (xS 31 (.indexAddr none 1 (.tmp 29) (.tmp 30))) (.op 6 true (xS 33 (.move (.tmp 2))) (.op 7 true (xS 34 (.conv .u32 (.tmp 33))) (.op 8 true (xS 35 (.shift .shl (.tmp 34) (.cst (.g (.int .u64 (.lit 8)))))) (.op 9 true (xS 36 (.move (.tmp 9))) (.op 10 true (xS 37 (.bin .add (.tmp 36) (xN 8))) (.op 11 true (xS 38 (.shift .shl (.tmp 35) (.tmp 37))) (.op 12 true (xS 39 (.shift .shr (.tmp 38) (.cst (.g (.int .u64 (.lit 24)))))) (.op 13 true (xS 40 (.conv .u8 (.tmp 39))) (.op 5 false (xS 32 (.load none (.tmp 31))) (.op 14 false (xS 41 (.bin .xor (.tmp 32) (.tmp 40))) (.op 15 false (xS 42 (.indexAddr none 1 (.tmp 27) (.tmp 28))) (.op 16 false (.mk none none (.store 1 (.tmp 42) (.tmp 41))) .nil)))))))))))))))))))))) (.ops [xS 43 (.bin .add (.tmp 14) (xN 1)), xS 14 (.move (.tmp 43))]))))))) (.seq (.ops [xS 44 (.move (.tmp 7)), xS 6 (.move (.tmp 44))]) .ret))))
theorem c57 : compF Try.prog 57 = some x57 := by kernel_rfl
def x58 : XF := XF.mk 13 [.tmp 2] (.seq (.ops [xS 2 (.move (xN 0))]) (.seq (.drawn 1 (.op 0 true (xS 3 (.move (.tmp 0))) (.op 1 true (xS 4 (.nilCheck (.tmp 3))) (.op 2 true (xS 5 (.fieldAddr 1 (.tmp 4))) (.op 3 true (xS 6 (.load none (.tmp 5))) (.op 4 false (xS 7 (.move (.tmp 0))) (.op 5 false (xS 8 (.nilCheck (.tmp 7))) (.op 6 false (xS 9 (.fieldAddr 0 (.tmp 8))) (.op 7 false (xS 10 (.load none (.tmp 9))) (.op 8 false (xS 11 (.len (.tmp 10))) (.op 9 false (xS 12 (.bin .sub (.tmp 6) (.tmp 11))) (.op 10 false (xS 2 (.move (.tmp 12))) .nil)))))))))))) .ret))
theorem c58 : compF Try.prog 58 = some x58 := by kernel_rfl
def x59 : XF := XF.mk 8 [.cell 2 (some 9)] (.seq (.ops [xS 1 (.box (.tmp 0)), xS 2 (.alloc x9z)]) (.seq (.ops [xS 3 (.fieldAddr 8 (.tmp 1)), xS 4 (.load none (.tmp 3)), xS 5 (.call 66 [.tmp 4]), xS 6 (.fieldAddr 8 (.tmp 1)), .mk none none (.store 1 (.tmp 6) (.tmp 5))]) (.seq (.ops [xS 7 (.load (some 9) (.tmp 1)), .mk none none (.store 9 (.tmp 2) (.tmp 7))]) .ret)))
theorem c59 : compF Try.prog 59 = some x59 := by kernel_rfl
def x61 : XF := XF.mk 22 [.cell 2 (some 9), .tmp 3] (.seq (.ops [xS 2 (.alloc x9z), xS 3 (.move (xB false))]) (.seq (.ops [xS 7 (.move (.tmp 0)), xS 8 (.call 75 [.tmp 7]), xS 6 (.move (.tmp 8)), xS 9 (.extract (.tmp 6) 0), xS 10 (.extract (.tmp 6) 1), xS 4 (.alloc x9z), .mk none none (.store 9 (.tmp 4) (.tmp 9)), xS 5 (.move (.tmp 10))]) (.seq (.seq (.ops [xS 11 (.move (.tmp 5))]) (.cond (.tmp 11) (.ops [xS 12 (.move (.tmp 0)), xS 13 (.move (.tmp 0)), xS 14 (.nilCheck (.tmp 13)), xS 15 (.fieldAddr 0 (.tmp 14)), xS 16 (.load none (.tmp 15)), xS 17 (.call 60 [.tmp 16, .cst (.g (.int .i64 (.lit 0))), .cst (.g (.int .i64 (.lit 1)))]), xS 18 (.nilCheck (.tmp 12)), xS 19 (.fieldAddr 0 (.tmp 18)), .mk none none (.store 1 (.tmp 19) (.tmp 17))]) .skip)) (.seq (.ops [xS 20 (.load (some 9) (.tmp 4)), xS 21 (.move (.tmp 5)), .mk none none (.store 9 (.tmp 2) (.tmp 20)), xS 3 (.move (.tmp 21))]) .ret))))
theorem c61 : compF Try.prog 61 = some x61 := by kernel_rfl
def x62 : XF := XF.mk 5 [.tmp 2] (.seq (.ops [xS 2 (.move (.cst (.g .nil)))]) (.seq (.ops [xS 3 (.move (.tmp 0)), xS 4 (.append 1 8 [.g (.int .i64 (.lit 0))] (.cst (.g .nil)) (.tmp 3)), xS 2 (.move (.tmp 4))]) .ret))
theorem c62 : compF Try.prog 62 = some x62 := by kernel_rfl
end Go.Proofs.Ytofdnnjkfpomcaa.E

/- The functions' compact code, as Lean computes it. -/
namespace Go.Proofs.Ytofdnnjkfpomcaa.E
open Go
set_option maxRecDepth 100000

def x66 : XF := XF.mk 8 [.tmp 2] (.seq (.ops [xS 2 (.move (.cst (.g .nil)))]) (.seq (.seq (.ops [xS 3 (.move (.tmp 0)), xS 4 (.isNil false (.tmp 3))]) (.cond (.tmp 4) (.seq (.ops [xS 2 (.move (.cst (.g .nil)))]) .ret) .skip)) (.seq (.ops [xS 5 (.buildSlice 1 [.g (.int .i64 (.lit 0))] 0 []), xS 6 (.move (.tmp 0)), xS 7 (.append 1 8 [.g (.int .i64 (.lit 0))] (.tmp 5) (.tmp 6)), xS 2 (.move (.tmp 7))]) .ret)))
theorem c66 : compF Try.prog 66 = some x66 := by kernel_rfl
def x67 : XF := XF.mk 4 [.tmp 2] (.seq (.ops [xS 2 (.move (.cst (.g (.int .u8 (.lit 0)))))]) (.seq (.seq (.ops [xS 3 (.move (.tmp 0))]) (.cond (.tmp 3) (.seq (.ops [xS 2 (.move (.cst (.g (.int .u8 (.lit 1)))))]) .ret) .skip)) (.seq (.ops [xS 2 (.move (.cst (.g (.int .u8 (.lit 0)))))]) .ret)))
theorem c67 : compF Try.prog 67 = some x67 := by kernel_rfl
def x68 : XF := XF.mk 17 [.tmp 2] (.seq (.ops [xS 2 (.move (.cst (.g .nil)))]) (.seq (.ops [xS 3 (.move (.cst (.g .nil)))]) (.seq (.seq (.ops [xS 4 (.move (xN 56))]) (.block 0 (.loop (.seq (.seq (.ops [xS 5 (.move (.tmp 4)), xS 6 (.cmp .geq (.tmp 5) (xN 0))]) (.cond (.tmp 6) .skip (.exit 0))) (.seq (.block 1 (.ops [xS 9 (.move (.tmp 3)), xS 10 (.move (.tmp 0)), xS 11 (.move (.tmp 4)), xS 12 (.shift .shr (.tmp 10) (.tmp 11)), xS 13 (.conv .u8 (.tmp 12)), xS 14 (.buildSlice 1 [.g (.int .u8 (.lit 0))] 1 [(0, .tmp 13)]), xS 15 (.append 1 1 [.g (.int .u8 (.lit 0))] (.tmp 9) (.tmp 14)), xS 3 (.move (.tmp 15))])) (.ops [xS 7 (.move (.tmp 4)), xS 8 (.bin .sub (.tmp 7) (xN 8)), xS 4 (.move (.tmp 8))])))))) (.seq (.ops [xS 16 (.move (.tmp 3)), xS 2 (.move (.tmp 16))]) .ret))))
theorem c68 : compF Try.prog 68 = some x68 := by kernel_rfl
def x69 : XF := XF.mk 15 [.tmp 2] (.seq (.ops [xS 2 (.move (.cst (.g .nil)))]) (.seq (.ops [xS 4 (.move (.tmp 0)), xS 5 (.call 77 [.tmp 4]), xS 3 (.move (.tmp 5))]) (.seq (.ops [xS 6 (.move (.tmp 0)), xS 7 (.move (.tmp 3)), xS 8 (.shift .shr (.tmp 7) (.cst (.g (.int .u64 (.lit 8))))), xS 9 (.conv .u8 (.tmp 8)), xS 10 (.move (.tmp 3)), xS 11 (.conv .u8 (.tmp 10)), xS 12 (.buildSlice 1 [.g (.int .u8 (.lit 0))] 2 [(0, .tmp 9), (1, .tmp 11)]), xS 13 (.buildSlice 1 [.g .nil] 2 [(0, .tmp 6), (1, .tmp 12)]), xS 14 (.call 78 [.tmp 13]), xS 2 (.move (.tmp 14))]) .ret)))
theorem c69 : compF Try.prog 69 = some x69 := by kernel_rfl
def x70 : XF := XF.mk 23 [.tmp 2, .tmp 3] (.seq (.ops [xS 2 (.move (.cst (.g .nil))), xS 3 (.move (xB false))]) (.seq (.ops [xS 5 (.move (.tmp 0)), xS 6 (.len (.tmp 5)), xS 7 (.bin .sub (.tmp 6) (xN 2)), xS 4 (.move (.tmp 7))]) (.seq (.seq (.ops [xS 8 (.move (.tmp 4)), xS 9 (.cmp .lss (.tmp 8) (xN 0)), xS 10 (.move (.tmp 9)), xG 11 10 false (.move (.tmp 0)), xG 12 10 false (.move (.tmp 4)), xG 13 10 false (.slice 1 (.tmp 11) none (some (.tmp 12))), xG 14 10 false (.call 69 [.tmp 13]), xG 15 10 false (.move (.tmp 0)), xG 16 10 false (.call 73 [.tmp 14, .tmp 15]), xG 17 10 false (.not (.tmp 16)), xS 18 (.pick (.tmp 10) (xB true) (.tmp 17))]) (.cond (.tmp 18) (.seq (.ops [xS 2 (.move (.cst (.g .nil))), xS 3 (.move (xB false))]) .ret) .skip)) (.seq (.ops [xS 19 (.move (.tmp 0)), xS 20 (.move (.tmp 4)), xS 21 (.slice 1 (.tmp 19) none (some (.tmp 20))), xS 22 (.call 74 [.tmp 21]), xS 2 (.move (.tmp 22)), xS 3 (.move (xB true))]) .ret))))
theorem c70 : compF Try.prog 70 = some x70 := by kernel_rfl
def x71 : XF := XF.mk 9 [.tmp 4] (.seq (.ops [xS 2 (.box (.tmp 0)), xS 3 (.box (.tmp 1)), xS 4 (.move (.cst .any))]) (.seq (.seq (.ops [xS 5 (.load none (.tmp 3)), xS 6 (.cmp .lss (.tmp 5) (xN 1))]) (.cond (.tmp 6) (.ops [xS 7 .dead, .mk none none .dead]) .skip)) (.seq (.ops [xS 8 (.makeFunc 79 [.tmp 2, .tmp 3]), xS 4 (.move (.tmp 8))]) .ret)))
theorem c71 : compF Try.prog 71 = some x71 := by kernel_rfl
def x72 : XF := XF.mk 20 [.tmp 2] (.seq (.ops [xS 2 (.move (xN 0))]) (.seq (.ops [xS 3 (.move (.cst (.g (.int .u64 (.lit 0)))))]) (.seq (.seq (.ops [xS 6 (.move (.tmp 0)), xS 7 (.len (.tmp 6)), xS 8 (.move (xN 0))]) (.block 0 (.loop (.seq (.ops [xS 9 (.cmp .lss (.tmp 8) (.tmp 7))]) (.seq (.cond (.tmp 9) .skip (.exit 0)) (.seq (.block 1 (.seq (.ops [xS 10 (.indexAddr none 1 (.tmp 6) (.tmp 8)), xS 11 (.load none (.tmp 10)), xS 5 (.move (.tmp 11))]) (.ops [xS 12 (.move (.tmp 3)), xS 13 (.shift .shl (.tmp 12) (.cst (.g (.int .u64 (.lit 8))))), xS 14 (.move (.tmp 5)), xS 15 (.conv .u64 (.tmp 14)), xS 16 (.bin .or (.tmp 13) (.tmp 15)), xS 3 (.move (.tmp 16))]))) (.ops [xS 17 (.bin .add (.tmp 8) (xN 1)), xS 8 (.move (.tmp 17))]))))))) (.seq (.ops [xS 18 (.move (.tmp 3)), xS 19 (.conv .i64 (.tmp 18)), xS 2 (.move (.tmp 19))]) .ret))))
theorem c72 : compF Try.prog 72 = some x72 := by kernel_rfl
def x73 : XF := XF.mk 10 [.tmp 4] (.seq (.ops [xS 4 (.move (xB false))]) (.seq (.ops [xS 5 (.move (.tmp 0)), xS 6 (.b2s (.tmp 5)), xS 7 (.move (.tmp 1)), xS 8 (.b2s (.tmp 7)), xS 9 (.eq false .str (.tmp 6) (.tmp 8)), xS 4 (.move (.tmp 9))]) .ret))
theorem c73 : compF Try.prog 73 = some x73 := by kernel_rfl
def x74 : XF := XF.mk 8 [.tmp 2] (.seq (.ops [xS 2 (.move (.cst (.g .nil)))]) (.seq (.seq (.ops [xS 3 (.move (.tmp 0)), xS 4 (.isNil false (.tmp 3))]) (.cond (.tmp 4) (.seq (.ops [xS 2 (.move (.cst (.g .nil)))]) .ret) .skip)) (.seq (.ops [xS 5 (.buildSlice 1 [.g (.int .u8 (.lit 0))] 0 []), xS 6 (.move (.tmp 0)), xS 7 (.append 1 1 [.g (.int .u8 (.lit 0))] (.tmp 5) (.tmp 6)), xS 2 (.move (.tmp 7))]) .ret)))
theorem c74 : compF Try.prog 74 = some x74 := by kernel_rfl
def x75 : XF := XF.mk 18 [.cell 2 (some 9), .tmp 3] (.seq (.ops [xS 2 (.alloc x9z), xS 3 (.move (xB false))]) (.seq (.seq (.ops [xS 4 (.move (.tmp 0)), xS 5 (.nilCheck (.tmp 4)), xS 6 (.fieldAddr 0 (.tmp 5)), xS 7 (.load none (.tmp 6)), xS 8 (.len (.tmp 7)), xS 9 (.cmp .eql (.tmp 8) (xN 0))]) (.cond (.tmp 9) (.seq (.ops [xS 10 (.build x9z []), .mk none none (.store 9 (.tmp 2) (.tmp 10)), xS 3 (.move (xB false))]) .ret) .skip)) (.seq (.ops [xS 11 (.move (.tmp 0)), xS 12 (.nilCheck (.tmp 11)), xS 13 (.fieldAddr 0 (.tmp 12)), xS 14 (.load none (.tmp 13)), xS 15 (.indexAddr none 9 (.tmp 14) (xN 0)), xS 16 (.load (some 9) (.tmp 15)), xS 17 (.call 59 [.tmp 16]), .mk none none (.store 9 (.tmp 2) (.tmp 17)), xS 3 (.move (xB true))]) .ret)))
theorem c75 : compF Try.prog 75 = some x75 := by kernel_rfl
def x77 : XF := XF.mk 30 [.tmp 2] (.seq (.ops [xS 2 (.move (.cst (.g (.int .u16 (.lit 0)))))]) (.seq (.ops [xS 3 (.move (.cst (.g (.int .u16 (.lit 65535)))))]) (.seq (.seq (.ops [xS 7 (.move (.tmp 0)), xS 8 (.len (.tmp 7)), xS 9 (.move (xN 0))]) (.block 0 (.loop (.seq (.ops [xS 10 (.cmp .lss (.tmp 9) (.tmp 8))]) (.seq (.cond (.tmp 10) .skip (.exit 0)) (.seq (.block 1 (.seq (.ops [xS 11 (.indexAddr none 1 (.tmp 7) (.tmp 9)), xS 12 (.load none (.tmp 11)), xS 5 (.move (.tmp 12))]) (.seq (.ops [xS 13 (.move (.tmp 3)), xS 14 (.move (.tmp 5)), xS 15 (.conv .u16 (.tmp 14)), xS 16 (.shift .shl (.tmp 15) (.cst (.g (.int .u64 (.lit 8))))), xS 17 (.bin .xor (.tmp 13) (.tmp 16)), xS 3 (.move (.tmp 17))]) (.seq (.ops [xS 18 (.move (xN 0))]) (.block 2 (.loop (.seq (.ops [xS 19 (.cmp .lss (.tmp 18) (xN 8))]) (.seq (.cond (.tmp 19) .skip (.exit 2)) (.seq (.block 3 (.seq (.ops [xS 20 (.move (.tmp 3)), xS 21 (.shift .shr (.tmp 20) (.cst (.g (.int .u64 (.lit 15))))), xS 6 (.move (.tmp 21))]) (.ops [xS 22 (.move (.tmp 3)), xS 23 (.shift .shl (.tmp 22) (.cst (.g (.int .u64 (.lit 1))))), xS 24 (.move (.tmp 6)), xS 25 (.bin .mul (.tmp 24) (.cst (.g (.int .u16 (.lit 4129))))), xS 26 (.bin .xor (.tmp 23) (.tmp 25)), xS 3 (.move (.tmp 26))]))) (.ops [xS 27 (.bin .add (.tmp 18) (xN 1)), xS 18 (.move (.tmp 27))])))))))))) (.ops [xS 28 (.bin .add (.tmp 9) (xN 1)), xS 9 (.move (.tmp 28))]))))))) (.seq (.ops [xS 29 (.move (.tmp 3)), xS 2 (.move (.tmp 29))]) .ret))))
theorem c77 : compF Try.prog 77 = some x77 := by kernel_rfl
def x78 : XF := XF.mk 36 [.tmp 2] (.seq (.ops [xS 2 (.move (.cst (.g .nil)))]) (.seq (.ops [xS 3 (.move (xN 0))]) (.seq (.seq (.ops [xS 9 (.move (.tmp 0)), xS 10 (.len (.tmp 9)), xS 11 (.move (xN 0))]) (.block 0 (.loop (.seq (.ops [xS 12 (.cmp .lss (.tmp 11) (.tmp 10))]) (.seq (.cond (.tmp 12) .skip (.exit 0)) (.seq (.block 1 (.seq (.ops [xS 13 (.indexAddr none 1 (.tmp 9) (.tmp 11)), xS 14 (.load none (.tmp 13)), xS 5 (.move (.tmp 14))]) (.seq (.ops [xS 15 (.move (.tmp 3)), xS 16 (.move (.tmp 5)), xS 17 (.len (.tmp 16)), xS 18 (.bin .add (.tmp 15) (.tmp 17)), xS 3 (.move (.tmp 18))]) (.seq (.ops [xS 19 (.move (.tmp 3)), xS 20 (.cmp .lss (.tmp 19) (xN 0))]) (.cond (.tmp 20) (.ops [xS 21 .dead, .mk none none .dead]) .skip))))) (.ops [xS 22 (.bin .add (.tmp 11) (xN 1)), xS 11 (.move (.tmp 22))]))))))) (.seq (.ops [xS 23 (.move (.tmp 3)), xS 24 (.call 80 [.cst (.g .nil), .tmp 23]), xS 6 (.move (.tmp 24))]) (.seq (.seq (.ops [xS 25 (.move (.tmp 0)), xS 26 (.len (.tmp 25)), xS 27 (.move (xN 0))]) (.block 2 (.loop (.seq (.ops [xS 28 (.cmp .lss (.tmp 27) (.tmp 26))]) (.seq (.cond (.tmp 28) .skip (.exit 2)) (.seq (.block 3 (.seq (.ops [xS 29 (.indexAddr none 1 (.tmp 25) (.tmp 27)), xS 30 (.load none (.tmp 29)), xS 8 (.move (.tmp 30))]) (.ops [xS 31 (.move (.tmp 6)), xS 32 (.move (.tmp 8)), xS 33 (.append 1 1 [.g (.int .u8 (.lit 0))] (.tmp 31) (.tmp 32)), xS 6 (.move (.tmp 33))]))) (.ops [xS 34 (.bin .add (.tmp 27) (xN 1)), xS 27 (.move (.tmp 34))]))))))) (.seq (.ops [xS 35 (.move (.tmp 6)), xS 2 (.move (.tmp 35))]) .ret))))))
theorem c78 : compF Try.prog 78 = some x78 := by kernel_rfl
def x80 : XF := XF.mk 27 [.tmp 4] (.seq (.ops [xS 4 (.move (.cst (.g .nil)))]) (.seq (.seq (.ops [xS 5 (.move (.tmp 1)), xS 6 (.cmp .lss (.tmp 5) (xN 0))]) (.cond (.tmp 6) (.ops [xS 7 .dead, .mk none none .dead]) .skip)) (.seq (.seq (.ops [xS 8 (.move (.tmp 1)), xS 9 (.move (.tmp 0)), xS 10 (.cap (.tmp 9)), xS 11 (.move (.tmp 0)), xS 12 (.len (.tmp 11)), xS 13 (.bin .sub (.tmp 10) (.tmp 12)), xS 14 (.bin .sub (.tmp 8) (.tmp 13)), xS 1 (.move (.tmp 14))]) (.seq (.ops [xS 15 (.move (.tmp 1)), xS 16 (.cmp .gtr (.tmp 15) (xN 0))]) (.cond (.tmp 16) (.ops [xS 17 (.move (.tmp 0)), xS 18 (.move (.tmp 0)), xS 19 (.cap (.tmp 18)), xS 20 (.slice 1 (.tmp 17) none (some (.tmp 19))), xS 21 (.move (.tmp 1)), xS 22 (.appendZ 1 1 [.g (.int .u8 (.lit 0))] (.tmp 20) (.tmp 21)), xS 23 (.move (.tmp 0)), xS 24 (.len (.tmp 23)), xS 25 (.slice 1 (.tmp 22) none (some (.tmp 24))), xS 0 (.move (.tmp 25))]) .skip))) (.seq (.ops [xS 26 (.move (.tmp 0)), xS 4 (.move (.tmp 26))]) .ret))))
theorem c80 : compF Try.prog 80 = some x80 := by kernel_rfl
end Go.Proofs.Ytofdnnjkfpomcaa.E

/- Contracts: Within, Copy, Cut, Same of numbers. -/
namespace Go.Proofs.Ytofdnnjkfpomcaa.E
open Go
set_option linter.unusedVariables false
set_option maxRecDepth 100000

theorem mo0 : Try.prog.follows .mixedOrders = true := by kernel_rfl
theorem ref : ∃ I, I = ints := ⟨_, rfl⟩
/-- Any number as one from 0 to n - 1. -/
def win (v n : Int) : Int := if n < 1 then 0 else if v.tmod n < 0 then IntKind.i64.wrap (v.tmod n + n) else v.tmod n
/-- A number that counts. -/
def isN (z : Int) (n : Nat) : Prop := z = (n : Int)
/-- Rows of one number each. -/
def isL (k : IntKind) (l : List (List G)) (xs : List Int) : Prop := l = nrow k xs
theorem isL.len {k : IntKind} {l : List (List G)} {xs : List Int} (h : isL k l xs) : l.length = xs.length := by rw [h]; simp [nrow]
theorem isL.get {k : IntKind} {l : List (List G)} {xs : List Int} (h : isL k l xs) (i : Nat) : l[i]? = (xs[i]?).map fun x => [.int k (.sym x)] := by rw [h]; simp [nrow]
theorem wrap_in (x : Int) (h1 : -9223372036854775808 ≤ x) (h2 : x ≤ 9223372036854775807) : IntKind.i64.wrap x = x := by
 rw [IntKind.wrap_i64]
 omega
theorem wf64 {n : Int} (h : (Lit.int .i64 n).wf = true) : -9223372036854775808 ≤ n ∧ n ≤ 9223372036854775807 := by
 have h1 : (decide (IntKind.i64.min ≤ n) && decide (n ≤ IntKind.i64.max)) = true := h
 rw [show IntKind.i64.min = -9223372036854775808 from rfl, show IntKind.i64.max = 9223372036854775807 from rfl] at h1
 simpa using h1
theorem win_in (v n : Int) (h : 0 < n) (hn : n ≤ 4611686018427387904) : 0 ≤ win v n ∧ win v n < n := by
 have h1 := Int.tmod_lt_of_pos v h
 have h2 : -n < v.tmod n := by
  have := Int.lt_tmod_of_pos v h
  omega
 unfold win
 rw [if_neg (by omega)]
 split
 ·rw [wrap_in] <;> omega
 ·omega
section
variable {P : Program}
theorem bx {f : FuncId} {args : List V1} {m : Mem} {x : Bool} (h : LValid P f args m (fun v m1 => v = boo x ∧ m1 = [])) : LValid P f args m (fun v m1 => ∃ t, t = x ∧ v = boo t ∧ m1 = []) := h.mono fun v m1 h => ⟨_, rfl, h.1, h.2⟩
theorem nx {f : FuncId} {args : List V1} {m : Mem} {k : IntKind} {x : Int} (h : LValid P f args m (fun v m1 => v = .one (.c (.g (.int k (.sym x)))) ∧ m1 = [])) : LValid P f args m (fun v m1 => ∃ t, t = x ∧ v = .one (.c (.g (.int k (.sym t)))) ∧ m1 = []) := h.mono fun v m1 h => ⟨_, rfl, h.1, h.2⟩
variable (hp : P = Try.prog)
include hp
theorem mo : P.follows .mixedOrders = true := hp ▸ mo0
theorem cc {n : Nat} {x : XF} (h : compF Try.prog n = some x) : compF P n = some x := hp ▸ h

theorem ccj {j : List Nat} {n : Nat} {x : XF} (h : compFj Try.prog j n = some x) : compFj P j n = some x := hp ▸ h

theorem within (v n : Z) : LValid P 9 [.c (.g (.int .i64 v)), .c (.g (.int .i64 n))] [] (fun r m1 => ∃ t, t = win v.val n.val ∧ r = i64 t ∧ m1 = []) := by
 refine nx (LValid.sy (LValid.num ?_))
 show LValid P 9 [.c (.g (.int .i64 (.sym v.val))), .c (.g (.int .i64 (.sym n.val)))] [] _
 generalize v.val = v, n.val = n
 obtain ⟨I, hI⟩ := ref
 refine fn_sim hI (mo hp) (cc hp c9) fun Post hP => ?_
 cbv
 refine .br (fun h => ?_) (fun h => ?_)
 ·cbv
  have h : n < 1 := by simpa [hI, ints, rCmp] using h
  exact hP _ _ [] [] _ _ .nil rfl rfl rfl rfl rfl ⟨_, rfl, by simp [win, h, Z.val], rfl⟩
 ·have h : ¬ n < 1 := by simpa [hI, ints, rCmp] using h
  cbv
  refine .nz (by omega) ?_
  cbv
  refine .br (fun h2 => ?_) (fun h2 => ?_)
  ·have h2 : v.tmod n < 0 := by simpa [hI, ints, rCmp, rBin] using h2
   cbv
   exact hP _ _ [] [] _ _ .nil rfl rfl rfl rfl rfl ⟨_, rfl, by simp [win, h, h2, Z.val, hI, ints, rBin], rfl⟩
  ·have h2 : ¬ v.tmod n < 0 := by simpa [hI, ints, rCmp, rBin] using h2
   cbv
   exact hP _ _ [] [] _ _ .nil rfl rfl rfl rfl rfl ⟨_, rfl, by simp [win, h, h2, Z.val, hI, ints, rBin], rfl⟩
theorem copy (l : List (List G)) (hl : l.length * 8 ≤ 140737488355328) : LValid P 62 [.c (.bor 1 l)] [] (fun v m1 => v = .one (.c (.row 0 1 none)) ∧ m1 = [.sym 1 l]) := by
 obtain ⟨I, hI⟩ := ref
 refine fn_sim hI (mo hp) (cc hp c62) fun Post hP => ?_
 cbv
 refine .most (by simpa [hI, ints] using hl) (by simp [hI, ints]; omega) ?_
 cbv
 exact hP _ _ [0] [] _ _ (by decide) rfl rfl rfl rfl rfl ⟨rfl, rfl⟩
theorem cut (l : List (List G)) (z : Z) (n : Nat) (hz : isN z.val n) (hl : l.length * 8 ≤ 140737488355328) : LValid P 44 [.c (.bor 1 l), .c (.g (.int .i64 z))] [] (fun v m1 => ∃ l', l' = l.take n ∧ v = .one (.c (.row 0 1 none)) ∧ m1 = [.sym 1 l']) := by
 refine LValid.sy ?_
 show LValid P 44 [.c (.bor 1 l), .c (.g (.int .i64 (.sym z.val)))] [] _
 generalize z.val = z at hz
 obtain ⟨I, hI⟩ := ref
 refine fn_sim hI (mo hp) (cc hp c44) fun Post hP => ?_
 cbv
 obtain ⟨q, hq⟩ : ∃ q, q = min n l.length := ⟨_, rfl⟩
 refine .rng 0 q rfl ?_ (Nat.zero_le _) (by rw [hI, hq]; exact Nat.min_le_right _ _) ?_
 ·unfold isN at hz
  simp [hI, ints, hz, hq]
  split <;> omega
 cbv
 have hl' : (I.ext l 0 q).length * 8 ≤ 140737488355328 := by
  rw [hI, hq]
  simp [ints]
  omega
 generalize hx : I.ext l 0 q = l' at hl'
 refine .go [] [] [] (copy hp l' hl') rfl rfl rfl rfl ?_ rfl ?_
 ·rw [← hx]
  rfl
 rintro v m1 ⟨rfl, rfl⟩
 cbv
 exact hP _ _ [0] [] _ _ (by decide) rfl rfl rfl rfl rfl ⟨l', by rw [← hx, hI, hq]; simp [ints, List.take_eq_take_iff], rfl, rfl⟩
end
end Go.Proofs.Ytofdnnjkfpomcaa.E

/- Sums of bytes: words of sixteen digits, and what the evaluator's numbers say of them. -/
namespace Go.Proofs.Ytofdnnjkfpomcaa.E
open Go
set_option linter.unusedVariables false

def w16 (b : BitVec 16) : Int := (b.toNat : Int)
def w8 (b : BitVec 8) : Int := (b.toNat : Int)
theorem u16w (n : Int) : IntKind.u16.wrap n = n % 65536 := by simp [IntKind.wrap, IntKind.bits, IntKind.signed]
theorem u8w (n : Int) : IntKind.u8.wrap n = n % 256 := by simp [IntKind.wrap, IntKind.bits, IntKind.signed]
theorem of16 (b : BitVec 16) : BitVec.ofInt 16 (w16 b) = b := by simp [w16]
theorem of8 (b : BitVec 8) : BitVec.ofInt 8 (w8 b) = b := by simp [w8]
theorem wr16 (b : BitVec 16) : IntKind.u16.wrap (b.toNat : Int) = w16 b := by rw [u16w]; have := b.isLt; unfold w16; omega
theorem wr8 (b : BitVec 8) : IntKind.u8.wrap (b.toNat : Int) = w8 b := by rw [u8w]; have := b.isLt; unfold w8; omega
theorem w8_inj {a b : BitVec 8} (h : w8 a = w8 b) : a = b := by unfold w8 at h; exact BitVec.eq_of_toNat_eq (by omega)
theorem xor16 (a b : BitVec 16) : rBin .xor .u16 (w16 a) (w16 b) = w16 (a ^^^ b) := by
 show IntKind.u16.wrap (BitVec.ofInt 16 (w16 a) ^^^ BitVec.ofInt 16 (w16 b)).toNat = _
 rw [of16, of16, wr16]
theorem xor8 (a b : BitVec 8) : rBin .xor .u8 (w8 a) (w8 b) = w8 (a ^^^ b) := by
 show IntKind.u8.wrap (BitVec.ofInt 8 (w8 a) ^^^ BitVec.ofInt 8 (w8 b)).toNat = _
 rw [of8, of8, wr8]
theorem mul16 (a b : BitVec 16) : rBin .mul .u16 (w16 a) (w16 b) = w16 (a * b) := by
 show IntKind.u16.wrap (w16 a * w16 b) = _
 rw [u16w]
 unfold w16
 rw [BitVec.toNat_mul, Int.natCast_emod, Int.natCast_mul]
 rfl
theorem shl16 (a : BitVec 16) (n : Nat) (h : n ≤ 16) : rBin .shl .u16 (w16 a) (n : Int) = w16 (a <<< n) := by
 show IntKind.u16.wrap (w16 a * 2 ^ (min ((n : Int)).toNat 16)) = _
 rw [u16w, Int.toNat_natCast, Nat.min_eq_left h]
 unfold w16
 rw [BitVec.toNat_shiftLeft, Nat.shiftLeft_eq, Int.natCast_emod, Int.natCast_mul, Int.natCast_pow]
 rfl
theorem shr16 (a : BitVec 16) (n : Nat) (h : n ≤ 16) : rBin .shr .u16 (w16 a) (n : Int) = w16 (a >>> n) := by
 show (w16 a).fdiv (2 ^ (min ((n : Int)).toNat 16)) = _
 rw [Int.toNat_natCast, Nat.min_eq_left h, Int.fdiv_eq_ediv_of_nonneg _ (Int.pow_nonneg (by decide))]
 unfold w16
 rw [BitVec.toNat_ushiftRight, Nat.shiftRight_eq_div_pow, Int.natCast_ediv, Int.natCast_pow]
 rfl
theorem wide (c : BitVec 8) : IntKind.u16.wrap (w8 c) = w16 (c.setWidth 16) := by
 rw [u16w]
 have := c.isLt
 unfold w8 w16
 rw [BitVec.toNat_setWidth, Int.natCast_emod]
 rfl
theorem narrow (c : BitVec 16) : IntKind.u8.wrap (w16 c) = w8 (c.setWidth 8) := by
 rw [u8w]
 unfold w8 w16
 rw [BitVec.toNat_setWidth, Int.natCast_emod]
 rfl

/-! ### The sum -/
def bstep (s : BitVec 16) : BitVec 16 := (s <<< 1) ^^^ ((s >>> 15) * 0x1021#16)
def gstep (s : BitVec 16) (b : Bool) : BitVec 16 := (s <<< 1) ^^^ (if s.msb != b then 0x1021#16 else 0#16)
def bsteps : Nat → BitVec 16 → BitVec 16
 | 0, s => s
 | n + 1, s => bsteps n (bstep s)
def byteStep (s : BitVec 16) (c : BitVec 8) : BitVec 16 := bsteps 8 (s ^^^ (c.setWidth 16 <<< 8))
def sumFrom (s : BitVec 16) (l : List (BitVec 8)) : BitVec 16 := l.foldl byteStep s
def crcSum (l : List (BitVec 8)) : BitVec 16 := sumFrom 0xffff#16 l
theorem top16 (s : BitVec 16) : s >>> 15 = if s.msb then 1#16 else 0#16 := by
 apply BitVec.eq_of_toNat_eq
 rw [BitVec.toNat_ushiftRight, Nat.shiftRight_eq_div_pow, BitVec.msb_eq_decide]
 have := s.isLt
 by_cases h : 2 ^ (16 - 1) ≤ s.toNat
 ·rw [if_pos (by simpa using h)]
  show s.toNat / 32768 = 1
  have h : 32768 ≤ s.toNat := h
  omega
 ·rw [if_neg (by simpa using h)]
  show s.toNat / 32768 = 0
  have h : ¬ 32768 ≤ s.toNat := h
  omega
theorem xlc {n : Nat} (a b c : BitVec n) : a ^^^ (b ^^^ c) = b ^^^ (a ^^^ c) := by rw [← BitVec.xor_assoc, BitVec.xor_comm a, BitVec.xor_assoc]
theorem bstep_eq (s : BitVec 16) : bstep s = gstep s false := by
 unfold bstep gstep
 rw [top16]
 cases s.msb <;> rfl
theorem bstep_mix (g m : BitVec 16) : bstep (g ^^^ m) = gstep g m.msb ^^^ (m <<< 1) := by
 rw [bstep_eq]
 unfold gstep
 rw [BitVec.msb_xor, BitVec.shiftLeft_xor_distrib]
 cases g.msb <;> cases m.msb <;> simp [BitVec.xor_assoc, BitVec.xor_comm, xlc]
theorem gstep_xor (a b : BitVec 16) (x y : Bool) : gstep (a ^^^ b) (x != y) = gstep a x ^^^ gstep b y := by
 unfold gstep
 rw [BitVec.msb_xor, BitVec.shiftLeft_xor_distrib]
 cases a.msb <;> cases b.msb <;> cases x <;> cases y <;> simp [BitVec.xor_assoc, BitVec.xor_comm, xlc]
theorem bstep_xor (a b : BitVec 16) : bstep (a ^^^ b) = bstep a ^^^ bstep b := by
 rw [bstep_eq, bstep_eq, bstep_eq, ← gstep_xor]
 rfl
theorem bsteps_xor : ∀ (n : Nat) (a b : BitVec 16), bsteps n (a ^^^ b) = bsteps n a ^^^ bsteps n b
 | 0, a, b => rfl
 | n + 1, a, b => by simp only [bsteps]; rw [bstep_xor, bsteps_xor n]
theorem byteStep_xor (a b : BitVec 16) (x y : BitVec 8) : byteStep (a ^^^ b) (x ^^^ y) = byteStep a x ^^^ byteStep b y := by
 unfold byteStep
 rw [← bsteps_xor, BitVec.setWidth_xor, BitVec.shiftLeft_xor_distrib]
 congr 1
 simp [BitVec.xor_assoc, xlc]
/-- The sum, digit by digit. -/
def gsteps (s : BitVec 16) : List Bool → BitVec 16
 | [] => s
 | b :: l => gsteps (gstep s b) l
def bitsOf (c : BitVec 8) : List Bool := [c.getLsbD 7, c.getLsbD 6, c.getLsbD 5, c.getLsbD 4, c.getLsbD 3, c.getLsbD 2, c.getLsbD 1, c.getLsbD 0]
theorem msb_at (c : BitVec 8) (i : Nat) (h : i < 8) : ((c.setWidth 16 <<< 8) <<< i).msb = c.getLsbD (7 - i) := by
 rw [BitVec.msb_eq_getLsbD_last]
 simp only [BitVec.getLsbD_shiftLeft, BitVec.getLsbD_setWidth]
 match i, h with
 | 0, _ => simp
 | 1, _ => simp
 | 2, _ => simp
 | 3, _ => simp
 | 4, _ => simp
 | 5, _ => simp
 | 6, _ => simp
 | 7, _ => simp
theorem all_out (c : BitVec 8) : (c.setWidth 16 <<< 8) <<< 8 = 0#16 := by
 rw [← BitVec.shiftLeft_add]
 exact BitVec.shiftLeft_eq_zero (by decide)
theorem byteStep_bits (s : BitVec 16) (c : BitVec 8) : byteStep s c = gsteps s (bitsOf c) := by
 unfold byteStep
 have key : ∀ (k i : Nat) (g : BitVec 16), i + k = 8 → bsteps k (g ^^^ ((c.setWidth 16 <<< 8) <<< i)) = gsteps g ((bitsOf c).drop i) := by
  intro k
  induction k with
  | zero =>
   intro i g h
   have : i = 8 := by omega
   subst this
   rw [all_out]
   simp [bsteps, bitsOf, gsteps]
  | succ k ih =>
   intro i g h
   have hi : i < 8 := by omega
   have hd : (bitsOf c).drop i = c.getLsbD (7 - i) :: (bitsOf c).drop (i + 1) := by
    match i, hi with
    | 0, _ => rfl
    | 1, _ => rfl
    | 2, _ => rfl
    | 3, _ => rfl
    | 4, _ => rfl
    | 5, _ => rfl
    | 6, _ => rfl
    | 7, _ => rfl
   rw [hd]
   simp only [bsteps, gsteps]
   rw [bstep_mix, msb_at c i hi, ← BitVec.shiftLeft_add, ih (i + 1) _ (by omega)]
 have := key 8 0 s rfl
 rw [BitVec.shiftLeft_zero] at this
 exact this
end Go.Proofs.Ytofdnnjkfpomcaa.E

/- Sums of bytes: a seal's sum is nought; a burst's is not; spoilt bytes. -/
namespace Go.Proofs.Ytofdnnjkfpomcaa.E
open Go
set_option linter.unusedVariables false

theorem bstep_zero (s : BitVec 16) (h : bstep s = 0#16) : s = 0#16 := by
 rw [bstep_eq] at h
 unfold gstep at h
 cases hm : s.msb with
 | true =>
  rw [hm] at h
  have := congrArg (fun x => x.getLsbD 0) h
  simp at this
 | false =>
  rw [hm] at h
  have h1 : s <<< 1 = 0#16 := by simpa using h
  apply BitVec.eq_of_toNat_eq
  have h2 := congrArg BitVec.toNat h1
  rw [BitVec.toNat_shiftLeft, Nat.shiftLeft_eq] at h2
  rw [BitVec.msb_eq_decide] at hm
  have h3 : ¬ 32768 ≤ s.toNat := by simpa using hm
  have h4 : s.toNat * 2 ^ 1 % 65536 = 0 := h2
  show s.toNat = 0
  omega
theorem bsteps_nought : ∀ (n : Nat), bsteps n 0#16 = 0#16
 | 0 => rfl
 | n + 1 => by
  simp only [bsteps]
  rw [show bstep 0#16 = 0#16 from by decide]
  exact bsteps_nought n
theorem bsteps_zero : ∀ (n : Nat) (s : BitVec 16), bsteps n s = 0#16 → s = 0#16
 | 0, s, h => h
 | n + 1, s, h => bstep_zero s (bsteps_zero n _ h)
theorem bsteps_add : ∀ (a b : Nat) (s : BitVec 16), bsteps (a + b) s = bsteps b (bsteps a s)
 | 0, b, s => by rw [Nat.zero_add]; rfl
 | a + 1, b, s => by rw [Nat.add_right_comm]; simp only [bsteps]; exact bsteps_add a b _
theorem low_shift (l : BitVec 8) : bsteps 8 (l.setWidth 16) = l.setWidth 16 <<< 8 := by
 have key : ∀ (k i : Nat), i + k = 8 → bsteps k (l.setWidth 16 <<< i) = l.setWidth 16 <<< 8 := by
  intro k
  induction k with
  | zero =>
   intro i h
   have : i = 8 := by omega
   subst this
   rfl
  | succ k ih =>
   intro i h
   simp only [bsteps]
   have hm : (l.setWidth 16 <<< i).msb = false := by
    rw [BitVec.msb_eq_getLsbD_last, BitVec.getLsbD_shiftLeft, BitVec.getLsbD_setWidth]
    have : l.getLsbD (15 - i) = false := BitVec.getLsbD_of_ge _ _ (by omega)
    simp [this]
   rw [bstep_eq, gstep, hm, show (if (false != false) = true then 0x1021#16 else 0#16) = 0#16 from rfl, BitVec.xor_zero, ← BitVec.shiftLeft_add]
   exact ih (i + 1) (by omega)
 have := key 8 0 rfl
 rwa [BitVec.shiftLeft_zero] at this
/-- Two bytes as one word. -/
def two (h l : BitVec 8) : BitVec 16 := (h.setWidth 16 <<< 8) ^^^ l.setWidth 16
theorem sum_two (s : BitVec 16) (h l : BitVec 8) : sumFrom s [h, l] = bsteps 16 (s ^^^ two h l) := by
 show byteStep (byteStep s h) l = _
 unfold byteStep two
 rw [bsteps_add 8 8 _, ← BitVec.xor_assoc, bsteps_xor 8 _ (l.setWidth 16), low_shift]
def hi8 (s : BitVec 16) : BitVec 8 := (s >>> 8).setWidth 8
def lo8 (s : BitVec 16) : BitVec 8 := s.setWidth 8
theorem two_parts (s : BitVec 16) : two (hi8 s) (lo8 s) = s := by
 unfold two hi8 lo8
 apply BitVec.eq_of_getLsbD_eq
 intro i hi
 simp only [BitVec.getLsbD_xor, BitVec.getLsbD_shiftLeft, BitVec.getLsbD_setWidth, BitVec.getLsbD_ushiftRight]
 by_cases h : i < 8
 ·simp [h, hi]
 ·have : 8 + (i - 8) = i := by omega
  have h3 : i - 8 < 8 := by omega
  have h4 : i - 8 < 16 := by omega
  simp [h, hi, h3, h4, this]
theorem two_inj {a b c d : BitVec 8} (h : two a b = two c d) : a = c ∧ b = d := by
 unfold two at h
 constructor
 ·apply BitVec.eq_of_getLsbD_eq
  intro i hi
  have := congrArg (fun x => x.getLsbD (i + 8)) h
  simp only [BitVec.getLsbD_xor, BitVec.getLsbD_shiftLeft, BitVec.getLsbD_setWidth] at this
  have h1 : i + 8 < 16 := by omega
  have h2 : ¬ i + 8 < 8 := by omega
  have h5 : i < 16 := by omega
  have h3 : b.getLsbD (i + 8) = false := BitVec.getLsbD_of_ge _ _ (by omega)
  have h4 : d.getLsbD (i + 8) = false := BitVec.getLsbD_of_ge _ _ (by omega)
  simpa [h1, h2, h3, h4, h5] using this
 ·apply BitVec.eq_of_getLsbD_eq
  intro i hi
  have := congrArg (fun x => x.getLsbD i) h
  simp only [BitVec.getLsbD_xor, BitVec.getLsbD_shiftLeft, BitVec.getLsbD_setWidth] at this
  have h1 : i < 16 := by omega
  simpa [h1, hi] using this
theorem sumFrom_app (s : BitVec 16) (l r : List (BitVec 8)) : sumFrom s (l ++ r) = sumFrom (sumFrom s l) r := by simp [sumFrom]
/-- What has the sum nought, and two bytes, is a seal. -/
theorem seal_zero (y : List (BitVec 8)) (h l : BitVec 8) : crcSum (y ++ [h, l]) = 0#16 ↔ h = hi8 (crcSum y) ∧ l = lo8 (crcSum y) := by
 unfold crcSum
 rw [sumFrom_app, sum_two]
 constructor
 ·intro e
  have h1 := bsteps_zero 16 _ e
  have h2 : sumFrom 0xffff#16 y = two h l := by
   have := congrArg (fun x => x ^^^ two h l) h1
   simpa [BitVec.xor_assoc] using this
  have h3 := (two_parts (sumFrom 0xffff#16 y)).trans h2
  obtain ⟨h4, h5⟩ := two_inj h3
  exact ⟨h4.symm, h5.symm⟩
 ·rintro ⟨rfl, rfl⟩
  rw [two_parts, BitVec.xor_self]
  exact bsteps_nought 16

/-! ### Bursts -/
def topw : List Bool → BitVec 16
 | [] => 0#16
 | b :: l => (if b then 0x8000#16 else 0#16) ^^^ (topw l >>> 1)
theorem topw_lsb : ∀ (l : List Bool) (i : Nat), i < 16 → (topw l).getLsbD (15 - i) = (l[i]?).getD false
 | [], i, h => by simp [topw]
 | b :: l, i, h => by
  simp only [topw, BitVec.getLsbD_xor, BitVec.getLsbD_ushiftRight]
  cases i with
  | zero =>
   have : (topw l).getLsbD (1 + (15 - 0)) = false := BitVec.getLsbD_of_ge _ _ (by omega)
   rw [this]
   cases b <;> simp <;> decide
  | succ i =>
   have e : 1 + (15 - (i + 1)) = 15 - i := by omega
   rw [e, topw_lsb l i (by omega)]
   have : (if b then 0x8000#16 else 0#16).getLsbD (15 - (i + 1)) = false := by
    cases b with
    | false => simp
    | true =>
     have h2 : i < 15 := by omega
     have h3 : 15 - (i + 1) < 15 := by omega
     generalize 15 - (i + 1) = n at h3
     match n, h3 with
     | 0, _ => decide
     | 1, _ => decide
     | 2, _ => decide
     | 3, _ => decide
     | 4, _ => decide
     | 5, _ => decide
     | 6, _ => decide
     | 7, _ => decide
     | 8, _ => decide
     | 9, _ => decide
     | 10, _ => decide
     | 11, _ => decide
     | 12, _ => decide
     | 13, _ => decide
     | 14, _ => decide
   rw [this]
   simp
theorem topw_msb (b : Bool) (l : List Bool) : (topw (b :: l)).msb = b := by
 rw [BitVec.msb_eq_getLsbD_last]
 exact topw_lsb (b :: l) 0 (by omega)
theorem topw_shift (b : Bool) (l : List Bool) (h : (l[15]?).getD false = false) : topw (b :: l) <<< 1 = topw l := by
 apply BitVec.eq_of_getLsbD_eq
 intro i hi
 rw [BitVec.getLsbD_shiftLeft]
 by_cases h0 : i < 1
 ·have : i = 0 := by omega
  subst this
  have := topw_lsb l 15 (by omega)
  rw [h] at this
  simpa using this.symm
 ·have e1 : i - 1 = 15 - (16 - i) := by omega
  have e2 : i = 15 - (15 - i) := by omega
  rw [e1, topw_lsb _ _ (by omega)]
  rw [show (topw l).getLsbD i = (topw l).getLsbD (15 - (15 - i)) from by rw [← e2], topw_lsb _ _ (by omega)]
  rw [show 16 - i = (15 - i) + 1 from by omega]
  simp [hi, h0]
theorem gsteps_top : ∀ (l : List Bool) (g : BitVec 16), (∀ k, 16 ≤ k → l[k]? ≠ some true) → gsteps g l = bsteps l.length (g ^^^ topw l)
 | [], g, h => by simp [gsteps, topw, bsteps]
 | b :: l, g, h => by
  have h15 : (l[15]?).getD false = false := by
   have := h 16 (by omega)
   cases hq : l[15]? with
   | none => rfl
   | some x =>
    cases x with
    | false => rfl
    | true => exact absurd (by simpa using hq) this
  simp only [gsteps, List.length_cons, bsteps]
  rw [gsteps_top l _ (fun k hk => by have := h (k + 1) (by omega); simpa using this), bstep_mix, topw_msb, topw_shift b l h15]
/-- Digits that are not nought stand in sixteen places: then the sum is not nought. -/
theorem burst : ∀ (l : List Bool) (lo : Int), (∀ (k : Nat), l[k]? = some true → lo ≤ (k : Int) ∧ (k : Int) < lo + 16) → gsteps 0#16 l = 0#16 → ∀ (k : Nat), l[k]? ≠ some true
 | [], lo, h, h0, k => by simp
 | false :: l, lo, h, h0, k => by
  have hs : gstep 0#16 false = 0#16 := by decide
  simp only [gsteps] at h0
  rw [hs] at h0
  have := burst l (lo - 1) (fun k hk => by have := h (k + 1) (by simpa using hk); omega) h0
  cases k with
  | zero => simp
  | succ k => simpa using this k
 | true :: l, lo, h, h0, k => by
  exfalso
  have h1 := h 0 rfl
  have h2 : ∀ k, 16 ≤ k → (true :: l)[k]? ≠ some true := fun k hk e => by have := h k e; omega
  rw [gsteps_top _ _ h2, BitVec.zero_xor] at h0
  have h3 := bsteps_zero _ _ h0
  have h4 := topw_msb true l
  rw [h3] at h4
  simp at h4
def digits (l : List (BitVec 8)) : List Bool := l.flatMap bitsOf
theorem sum_digits : ∀ (l : List (BitVec 8)) (s : BitVec 16), sumFrom s l = gsteps s (digits l)
 | [], s => rfl
 | c :: l, s => by
  show sumFrom (byteStep s c) l = _
  rw [sum_digits l, byteStep_bits]
  have : ∀ (a b : List Bool) (s : BitVec 16), gsteps s (a ++ b) = gsteps (gsteps s a) b := by
   intro a
   induction a with
   | nil => intro b s; rfl
   | cons x a ih => intro b s; exact ih b _
  simp only [digits, List.flatMap_cons]
  rw [this]
theorem bitsOf_get (c : BitVec 8) (j : Nat) (h : j < 8) : (bitsOf c)[j]? = some (c.getLsbD (7 - j)) := by
 match j, h with
 | 0, _ => rfl
 | 1, _ => rfl
 | 2, _ => rfl
 | 3, _ => rfl
 | 4, _ => rfl
 | 5, _ => rfl
 | 6, _ => rfl
 | 7, _ => rfl
theorem digits_get : ∀ (l : List (BitVec 8)) (k : Nat), (digits l)[k]? = (l[k / 8]?).map fun c => c.getLsbD (7 - k % 8)
 | [], k => by simp [digits]
 | c :: l, k => by
  simp only [digits, List.flatMap_cons]
  by_cases h : k < 8
  ·rw [List.getElem?_append_left (by simpa [bitsOf] using h), bitsOf_get c k h]
   rw [Nat.div_eq_of_lt h, Nat.mod_eq_of_lt h]
   rfl
  ·rw [List.getElem?_append_right (by simp [bitsOf]; omega)]
   have := digits_get l (k - 8)
   simp only [digits] at this
   rw [show k - (bitsOf c).length = k - 8 from rfl, this]
   have e1 : k / 8 = (k - 8) / 8 + 1 := by omega
   have e2 : (k - 8) % 8 = k % 8 := by omega
   rw [e1, e2]
   simp

/-! ### Spoilt bytes -/
/-- Is digit k turned? -/
def turned (mask : BitVec 16) (bit : Int) (k : Int) : Bool := decide (0 ≤ k - bit) && decide (k - bit < 16) && mask.getLsbD (15 - (k - bit).toNat)
/-- What the byte at a place is turned by. -/
def pat (mask : BitVec 16) (bit : Int) (a : Nat) : BitVec 8 := if 8 * (a : Int) - bit ≤ -8 ∨ 16 ≤ 8 * (a : Int) - bit then 0#8 else (((mask.setWidth 32 <<< 8) <<< (8 * (a : Int) - bit + 8).toNat) >>> 24).setWidth 8
theorem pat_get (mask : BitVec 16) (bit : Int) (a j : Nat) (h : j < 8) : (pat mask bit a).getLsbD (7 - j) = turned mask bit (8 * (a : Int) + j) := by
 unfold pat turned
 split
 ·rename_i h1
  have : ¬ (0 ≤ 8 * (a : Int) + j - bit ∧ 8 * (a : Int) + j - bit < 16) := by omega
  rcases Classical.not_and_iff_not_or_not.1 this with h2 | h2 <;> rw [decide_eq_false h2] <;> simp
 ·rename_i h1
  obtain ⟨n, hn⟩ : ∃ n : Nat, 8 * (a : Int) - bit + 8 = n := ⟨(8 * (a : Int) - bit + 8).toNat, by omega⟩
  have hn1 : 1 ≤ n ∧ n < 24 := by omega
  have e : 8 * (a : Int) + j - bit = (n : Int) + j - 8 := by omega
  rw [hn, e, Int.toNat_natCast]
  simp only [BitVec.getLsbD_setWidth, BitVec.getLsbD_ushiftRight, BitVec.getLsbD_shiftLeft]
  have g1 : 7 - j < 8 := by omega
  have g2 : 24 + (7 - j) < 32 := by omega
  by_cases h2 : 8 ≤ n + j
  ·by_cases h3 : n + j < 24
   ·have g3 : ¬ 24 + (7 - j) < n := by omega
    have g4 : 24 + (7 - j) - n < 32 := by omega
    have g5 : ¬ 24 + (7 - j) - n < 8 := by omega
    have g6 : 24 + (7 - j) - n - 8 < 32 := by omega
    have e1 : 15 - ((n : Int) + j - 8).toNat = 24 + (7 - j) - n - 8 := by omega
    have e2 : (0 : Int) ≤ (n : Int) + j - 8 := by omega
    have e3 : (n : Int) + j - 8 < 16 := by omega
    rw [e1, decide_eq_true e2, decide_eq_true e3]
    simp [g1, g2, g3, g4, g5, g6]
   ·have e3 : ¬ ((n : Int) + j - 8 < 16) := by omega
    rw [decide_eq_false e3]
    by_cases g3 : 24 + (7 - j) < n
    ·simp [g1, g2, g3]
    ·have g5 : 24 + (7 - j) - n < 8 := by omega
     simp [g1, g2, g3, g5]
  ·have e2 : ¬ ((0 : Int) ≤ (n : Int) + j - 8) := by omega
   have g7 : mask.getLsbD (24 + (7 - j) - n - 8) = false := BitVec.getLsbD_of_ge _ _ (by omega)
   rw [decide_eq_false e2]
   simp [g7]
def spoilt (mask : BitVec 16) (bit : Int) : Nat → List (BitVec 8) → List (BitVec 8)
 | _, [] => []
 | a, c :: l => (c ^^^ pat mask bit a) :: spoilt mask bit (a + 1) l
theorem spoilt_len (mask : BitVec 16) (bit : Int) : ∀ (l : List (BitVec 8)) (a : Nat), (spoilt mask bit a l).length = l.length
 | [], a => rfl
 | c :: l, a => by simp [spoilt, spoilt_len mask bit l]
theorem spoilt_get (mask : BitVec 16) (bit : Int) : ∀ (l : List (BitVec 8)) (a i : Nat), (spoilt mask bit a l)[i]? = (l[i]?).map fun c => c ^^^ pat mask bit (a + i)
 | [], a, i => by simp [spoilt]
 | c :: l, a, 0 => by simp [spoilt]
 | c :: l, a, i + 1 => by simp [spoilt, spoilt_get mask bit l (a + 1) i, Nat.add_comm 1 i, Nat.add_assoc]
theorem spoilt_none (mask : BitVec 16) (bit : Int) : ∀ (l : List (BitVec 8)) (a : Nat), (∀ i, i < l.length → pat mask bit (a + i) = 0#8) → spoilt mask bit a l = l
 | [], a, h => rfl
 | c :: l, a, h => by
  have h0 := h 0 (by simp)
  simp only [spoilt]
  rw [spoilt_none mask bit l (a + 1) (fun i hi => by have := h (i + 1) (by simpa using hi); rwa [show a + 1 + i = a + (i + 1) from by omega])]
  rw [Nat.add_zero] at h0
  rw [h0, BitVec.xor_zero]
/-- The errors alone. -/
def errs (mask : BitVec 16) (bit : Int) : Nat → Nat → List (BitVec 8)
 | _, 0 => []
 | a, n + 1 => pat mask bit a :: errs mask bit (a + 1) n
theorem errs_get (mask : BitVec 16) (bit : Int) : ∀ (n a i : Nat), (errs mask bit a n)[i]? = if i < n then some (pat mask bit (a + i)) else none
 | 0, a, i => by simp [errs]
 | n + 1, a, 0 => by simp [errs]
 | n + 1, a, i + 1 => by simp [errs, errs_get mask bit n (a + 1) i, Nat.add_comm 1 i, Nat.add_assoc]
theorem spoilt_xor (mask : BitVec 16) (bit : Int) : ∀ (l : List (BitVec 8)) (a : Nat) (s e : BitVec 16), sumFrom (s ^^^ e) (spoilt mask bit a l) = sumFrom s l ^^^ sumFrom e (errs mask bit a l.length)
 | [], a, s, e => rfl
 | c :: l, a, s, e => by
  show sumFrom (byteStep (s ^^^ e) (c ^^^ pat mask bit a)) _ = _
  rw [byteStep_xor]
  exact spoilt_xor mask bit l (a + 1) _ _
theorem crc_spoilt (mask : BitVec 16) (bit : Int) (l : List (BitVec 8)) : crcSum (spoilt mask bit 0 l) = crcSum l ^^^ sumFrom 0#16 (errs mask bit 0 l.length) := by
 have := spoilt_xor mask bit l 0 0xffff#16 0#16
 rwa [BitVec.xor_zero] at this
/-- What has the sum nought, and is spoilt, has it no more. -/
theorem spoilt_found (mask : BitVec 16) (bit : Int) (l : List (BitVec 8)) (h : crcSum l = 0#16) (h2 : crcSum (spoilt mask bit 0 l) = 0#16) : spoilt mask bit 0 l = l := by
 rw [crc_spoilt, h, BitVec.zero_xor, sum_digits] at h2
 have hd : ∀ k : Nat, (digits (errs mask bit 0 l.length))[k]? = some true → turned mask bit (k : Int) = true ∧ k / 8 < l.length := fun k hk => by
  rw [digits_get, errs_get] at hk
  split at hk
  ·rename_i h3
   have h4 : k % 8 < 8 := Nat.mod_lt _ (by omega)
   simp only [Option.map_some, Nat.zero_add, pat_get mask bit (k / 8) (k % 8) h4, Option.some.injEq] at hk
   have e : 8 * ((k / 8 : Nat) : Int) + ((k % 8 : Nat) : Int) = (k : Int) := by omega
   rw [e] at hk
   exact ⟨hk, h3⟩
  ·simp at hk
 have hw : ∀ k : Nat, (digits (errs mask bit 0 l.length))[k]? = some true → bit ≤ (k : Int) ∧ (k : Int) < bit + 16 := fun k hk => by
  obtain ⟨h3, -⟩ := hd k hk
  unfold turned at h3
  simp only [Bool.and_eq_true, decide_eq_true_eq] at h3
  omega
 have hb := burst _ bit hw h2
 refine spoilt_none mask bit l 0 fun i hi => ?_
 apply BitVec.eq_of_getLsbD_eq
 intro j hj
 rw [Nat.zero_add]
 have h5 := pat_get mask bit i (7 - j) (by omega)
 have h6 : 7 - (7 - j) = j := by omega
 rw [h6] at h5
 have h7 := hb (8 * i + (7 - j))
 rw [digits_get, errs_get] at h7
 have e1 : (8 * i + (7 - j)) / 8 = i := by omega
 have e2 : (8 * i + (7 - j)) % 8 = 7 - j := by omega
 rw [e1, e2, h6, if_pos hi, Nat.zero_add] at h7
 simp at h7
 rw [h7]
 simp
end Go.Proofs.Ytofdnnjkfpomcaa.E

/- Contracts: bytes: Copy, Cut, Same, Clone, Equal, Concat; sums, seals. -/
namespace Go.Proofs.Ytofdnnjkfpomcaa.E
open Go
set_option linter.unusedVariables false
set_option maxRecDepth 100000

/-- Rows of bytes. -/
def isB (l : List (List G)) (bs : List (BitVec 8)) : Prop := l = nrow .u8 (bs.map w8)
theorem isB.isL {l : List (List G)} {bs : List (BitVec 8)} (h : isB l bs) : isL .u8 l (bs.map w8) := h
theorem isB.len {l : List (List G)} {bs : List (BitVec 8)} (h : isB l bs) : l.length = bs.length := by rw [h]; simp [nrow]
theorem isB.get {l : List (List G)} {bs : List (BitVec 8)} (h : isB l bs) {i : Nat} {b : BitVec 8} (hb : bs[i]? = some b) : l[i]? = some [.int .u8 (.sym (w8 b))] := by rw [h]; simp [nrow, hb]
theorem isB.take {l : List (List G)} {bs : List (BitVec 8)} (h : isB l bs) (n : Nat) : isB (l.take n) (bs.take n) := by unfold isB at h ⊢; rw [h]; simp [nrow, List.map_take]
theorem isB.app {l r : List (List G)} {bs cs : List (BitVec 8)} (h : isB l bs) (g : isB r cs) : isB (l ++ r) (bs ++ cs) := by unfold isB at h g ⊢; rw [h, g]; simp [nrow]
theorem nums_gNum (l : List (BitVec 8)) : (nrow .u8 (l.map w8)).map gNum = l.map w8 := by
 induction l with
 | nil => rfl
 | cons a l ih => exact congrArg (w8 a :: ·) ih
theorem isB.inj {l : List (List G)} {bs cs : List (BitVec 8)} (h : isB l bs) (g : isB l cs) : bs = cs := by
 unfold isB at h g
 rw [h] at g
 have h1 : (nrow .u8 (bs.map w8)).map gNum = (nrow .u8 (cs.map w8)).map gNum := by rw [g]
 have h2 := nums_gNum
 rw [h2, h2] at h1
 exact (List.map_inj_right (fun a b e => w8_inj e)).1 h1
theorem strNums_len : ∀ (l : List Int) , (strOfNums l).toList = l.map fun n => UInt8.ofNat n.toNat := by
 intro l
 simp [strOfNums]
theorem seqB {a b : List (List G)} {us bs : List (BitVec 8)} (ha : isB a us) (hb : isB b bs) : ints.seq (ints.b2s a) (ints.b2s b) = (us == bs) := by
 have h2 := nums_gNum
 show ((strOfNums (a.map gNum)).toList == (strOfNums (b.map gNum)).toList) = _
 rw [ha, hb, h2, h2, strNums_len, strNums_len]
 have h3 : ∀ l : List (BitVec 8), (l.map w8).map (fun n => UInt8.ofNat n.toNat) = l.map fun c => UInt8.ofBitVec c := fun l => by
  rw [List.map_map]
  refine List.map_congr_left fun c _ => ?_
  apply UInt8.toNat_inj.1
  have := c.isLt
  simp [w8]
 rw [h3, h3]
 by_cases h : us = bs
 ·simp [h]
 ·have : us.map (fun c => UInt8.ofBitVec c) ≠ bs.map (fun c => UInt8.ofBitVec c) := fun e => h ((List.map_inj_right (fun a b e => by simpa using e)).1 e)
  rw [beq_eq_false_iff_ne.2 this, beq_eq_false_iff_ne.2 h]
theorem isB.bytes {l : List (List G)} {bs : List (BitVec 8)} (h : isB l bs) : ∀ (i : Nat) (r : List G), l[i]? = some r → ∃ z, r = [.int .u8 z] := fun i r hi => by
 rw [h] at hi
 obtain ⟨x, rfl⟩ := nrow_get _ _ _ _ hi
 exact ⟨_, rfl⟩
section
variable {P : Program} (hp : P = Try.prog)
include hp
theorem cloneB (l : List (List G)) (hl : l.length ≤ 140737488355328) : LValid P 74 [.c (.bor 1 l)] [] (fun v m1 => v = .one (.c (.row 0 1 none)) ∧ m1 = [.sym 1 l]) := by
 refine LValid.own (R := fun v m1 => (v = .one (.c (.row 0 1 none)) ∧ m1 = [.sym 1 l]) ∨ (v = .one (.c (.g .nil)) ∧ m1 = [] ∧ l = [])) 1 ?_ (fun v m1 h => h.imp id (fun ⟨h1, h2, h3⟩ => ⟨h1, by rw [h2, h3]; exact ⟨rfl, rfl⟩⟩))
 obtain ⟨I, hI⟩ := ref
 have hm : I.app [] l = l := by rw [hI]; rfl
 refine fn_sim hI (mo hp) (cc hp c74) fun Post hP => ?_
 cbv
 refine .isnil (fun h => ?_) ?_
 ·cbv
  exact hP _ _ [] [] _ _ .nil rfl rfl rfl rfl rfl (.inr ⟨rfl, rfl, h⟩)
 ·cbv
  refine .most (show I.len (I.app [] l) * 1 ≤ _ from by rw [hm]; simpa [hI, ints] using hl) (show I.len (I.app [] l) ≤ _ from by rw [hm]; simp [hI, ints]; omega) ?_
  cbv
  exact hP _ _ [1] [] _ _ (by decide) rfl rfl rfl rfl rfl (.inl ⟨rfl, show [Blk.sym 1 (I.app [] l)] = _ from by rw [hm]⟩)
theorem equalB (a b : List (List G)) (us bs : List (BitVec 8)) (ha : isB a us) (hb : isB b bs) : LValid P 73 [.c (.bor 1 a), .c (.bor 1 b)] [] (fun v m1 => ∃ t, t = (us == bs) ∧ v = boo t ∧ m1 = []) := by
 obtain ⟨I, hI⟩ := ref
 have hX : I.seq (I.b2s a) (I.b2s b) = (us == bs) := by rw [hI]; exact seqB ha hb
 refine fn_sim hI (mo hp) (cc hp c73) fun Post hP => ?_
 cbv
 refine .bytes ha.bytes ?_
 cbv
 refine .bytes hb.bytes ?_
 cbv
 exact hP _ _ [] [] _ _ .nil rfl rfl rfl rfl rfl ⟨_, hX, rfl, rfl⟩
theorem growB (z : Int) (n : Nat) (hz : isN z n) (h0 : 0 < n) (hn : n ≤ 140737488355328) : LValid P 80 [.c (.g .nil), .c (.g (.int .i64 (.sym z)))] [] (fun v m1 => ∃ l, v = .one (.c (.sl 0 (.lit 0) 1 (.lit 0) none)) ∧ m1 = [.sym 1 l]) := by
 obtain ⟨I, hI⟩ := ref
 have hX : I.bin .sub .i64 z 0 = (n : Int) := by
  unfold isN at hz
  rw [hI, hz]
  show IntKind.i64.wrap ((n : Int) - 0) = _
  rw [wrap_in] <;> omega
 have hne : I.bin .sub .i64 z 0 ≠ 0 := by rw [hX]; omega
 refine fn_sim hI (mo hp) (cc hp c80) fun Post hP => ?_
 cbv
 refine br_f (by unfold isN at hz; rw [hI, hz]; simp [ints, rCmp]) ?_
 cbv
 refine br_t (show I.cmp .gtr (I.bin .sub .i64 z 0) 0 = true from by rw [hX, hI]; simp [ints, rCmp]; omega) ?_
 cbv
 refine .nz hne (.size n hX (show n * 1 ≤ 140737488355328 from by omega) ?_)
 cbv
 refine .most (show n * 1 ≤ 140737488355328 from by omega) (by omega) ?_
 cbv
 refine .rng 0 0 rfl rfl (Nat.le_refl _) (Nat.zero_le _) ?_
 cbv
 exact hP _ _ [0] [] _ _ (by decide) rfl rfl rfl rfl rfl ⟨_, rfl, rfl⟩
theorem concat2 (a Y : List (List G)) (hY : Y.length = 2) (hl : a.length ≤ 140737488351250) : LValid P 78 [.c (.row 0 1 (some (.lit 2)))] [.lit 1 [[.bor 1 a], [.g (.rows 1 Y)]]] (fun v m1 => v = .one (.c (.row 1 1 none)) ∧ m1 = [.dead, .sym 1 (a ++ Y)]) := by
 obtain ⟨I, hI⟩ := ref
 refine fn_simk hI (mo hp) (cc hp c78) fun Post hP => ?_
 have hal : I.len a = a.length := by rw [hI]; rfl
 have hYl : I.ofNat (I.len Y) = 2 := by rw [hI]; show ((Y.length : Nat) : Int) = 2; rw [hY]; rfl
 obtain ⟨M, hM⟩ : ∃ M : Nat → Mem, M = fun _ => [.lit 1 [[.bor 1 a], [.g (.rows 1 Y)]]] := ⟨_, rfl⟩
 cbv
 refine .loop_next (fun n ts m => ∃ (k : Nat) (z s c : Int), n = 2 - k ∧ isN z k ∧ k ≤ 2 ∧ isN c 2 ∧ isN s (if k = 0 then 0 else if k = 1 then a.length else a.length + 2) ∧
   ts = fr 36 [(0, .one (.c (.row 0 1 (some (.lit 2))))), (3, i64 s), (9, .one (.c (.row 0 1 (some (.lit 2))))), (10, i64 c), (11, i64 z)] ∧ m = [.lit 1 [[.bor 1 a], [.g (.rows 1 Y)]]])
  2 _ _ [0] [] [0, 3, 9, 10, 11] (by decide) rfl rfl rfl ⟨0, 0, 0, 2, rfl, rfl, by omega, rfl, rfl, rfl, rfl⟩ ?_
 rintro next n hnext ts m ⟨k, z, s, c, hn, hz, hk, hc, hs, rfl, rfl⟩
 have hz1 : isN (I.bin .add .i64 z 1) (k + 1) := by unfold isN at hz ⊢; rw [hI]; simp only [ints, rBin]; rw [wrap_in] <;> omega
 cbv
 refine .br (fun g1 => ?_) (fun g1 => ?_)
 ·have hk1 : k < 2 := by
   have : z < c := by simpa [hI, ints, rCmp] using g1
   unfold isN at hz hc
   omega
  match k, hk1 with
  | 0, _ =>
   have hs1 : isN (I.bin .add .i64 s (I.ofNat (I.len a))) a.length := by
    have hs : s = 0 := hs
    unfold isN
    rw [hal, hI, hs]
    simp only [ints, rBin]
    rw [wrap_in] <;> omega
   cbv
   refine .idx 0 hz (by decide) ?_
   cbv
   refine br_f (show I.cmp .lss (I.bin .add .i64 s (I.ofNat (I.len a))) 0 = false from by unfold isN at hs1; rw [hs1, hI]; simp [ints, rCmp]) ?_
   cbv
   exact hnext _ _ 1 [0] [] [0, 3, 9, 10, 11] _ _ (by omega) (by decide) rfl rfl rfl ⟨1, _, _, c, rfl, hz1, by omega, hc, hs1, rfl, rfl⟩
  | 1, _ =>
   have hs1 : isN (I.bin .add .i64 s (I.ofNat (I.len Y))) (a.length + 2) := by
    have hs : s = (a.length : Int) := hs
    unfold isN
    rw [hYl, hI, hs]
    simp only [ints, rBin]
    rw [wrap_in] <;> omega
   cbv
   refine .idx 1 hz (by decide) ?_
   cbv
   refine br_f (show I.cmp .lss (I.bin .add .i64 s (I.ofNat (I.len Y))) 0 = false from by unfold isN at hs1; rw [hs1, hI]; simp [ints, rCmp]; omega) ?_
   cbv
   exact hnext _ _ 0 [0] [] [0, 3, 9, 10, 11] _ _ (by omega) (by decide) rfl rfl rfl ⟨2, _, _, c, rfl, hz1, by omega, hc, hs1, rfl, rfl⟩
 have hk2 : k = 2 := by
  have : ¬ z < c := by simpa [hI, ints, rCmp] using g1
  unfold isN at hz hc
  omega
 subst hk2
 have hs : isN s (a.length + 2) := hs
 cbv
 refine .go [] [] [] (growB hp s (a.length + 2) hs (by omega) (by omega)) rfl rfl rfl rfl rfl rfl ?_
 rintro v m1 ⟨l0, rfl, rfl⟩
 have hap1 : I.app (I.ext l0 0 0) a = a := by rw [hI]; simp [ints]
 have hap2 : I.app a Y = a ++ Y := by rw [hI]; rfl
 have hln2 : I.len (a ++ Y) = a.length + 2 := by rw [hI]; simp [ints, hY]
 cbv
 clear hnext
 refine .loop_next (fun n ts m => ∃ (k : Nat) (z c : Int) (q : C) (l : List (List G)), n = 2 - k ∧ isN z k ∧ k ≤ 2 ∧ isN c 2 ∧ ((k = 0 ∧ q = .sl 1 (.lit 0) 1 (.lit 0) none) ∨ (k = 1 ∧ q = .row 1 1 none ∧ l = a) ∨ (k = 2 ∧ q = .row 1 1 none ∧ l = a ++ Y)) ∧
   ts = fr 36 [(6, .one (.c q)), (25, .one (.c (.row 0 1 (some (.lit 2))))), (26, i64 c), (27, i64 z)] ∧ m = [.lit 1 [[.bor 1 a], [.g (.rows 1 Y)]], .sym 1 l])
  2 _ _ [0, 1] [] [6, 25, 26, 27] (by decide) rfl rfl rfl ⟨0, 0, 2, _, l0, rfl, rfl, by omega, rfl, .inl ⟨rfl, rfl⟩, rfl, rfl⟩ ?_
 rintro next n hnext ts m ⟨k, z, c, q, l, hn, hz, hk, hc, hq, rfl, rfl⟩
 have hz1 : isN (I.bin .add .i64 z 1) (k + 1) := by unfold isN at hz ⊢; rw [hI]; simp only [ints, rBin]; rw [wrap_in] <;> omega
 rcases hq with ⟨rfl, rfl⟩ | ⟨rfl, rfl, rfl⟩ | ⟨rfl, rfl, hl2⟩
 ·cbv
  refine br_t (by unfold isN at hz hc; rw [hI, hz, hc]; rfl) ?_
  cbv
  refine .idx 0 hz (by decide) ?_
  cbv
  have hap0 : I.app (I.ext l 0 0) a = a := by rw [hI]; simp [ints]
  refine .most (show I.len (I.app (I.ext l 0 0) a) * 1 ≤ 140737488355328 from by rw [hap0, hal]; omega) (show I.len (I.app (I.ext l 0 0) a) ≤ 140737488355328 from by rw [hap0, hal]; omega) ?_
  cbv
  exact hnext _ _ 1 [0, 2] [] [6, 25, 26, 27] _ _ (by omega) (by decide) rfl rfl rfl ⟨1, _, c, _, _, rfl, hz1, by omega, hc, .inr (.inl ⟨rfl, rfl, hap0⟩), rfl, rfl⟩
 ·cbv
  refine br_t (by unfold isN at hz hc; rw [hI, hz, hc]; rfl) ?_
  cbv
  refine .idx 1 hz (by decide) ?_
  cbv
  refine .most (show I.len (I.app l Y) * 1 ≤ 140737488355328 from by rw [hap2, hln2]; omega) (show I.len (I.app l Y) ≤ 140737488355328 from by rw [hap2, hln2]; omega) ?_
  cbv
  exact hnext _ _ 0 [0, 2] [] [6, 25, 26, 27] _ _ (by omega) (by decide) rfl rfl rfl ⟨2, _, c, _, _, rfl, hz1, by omega, hc, .inr (.inr ⟨rfl, rfl, hap2⟩), rfl, rfl⟩
 ·cbv
  refine br_f (by unfold isN at hz hc; rw [hI, hz, hc]; rfl) ?_
  cbv
  exact hP _ _ [0, 1] [] [0] _ _ (by decide) rfl rfl rfl rfl rfl ⟨rfl, by rw [← hl2]; rfl⟩
theorem sum (l : List (List G)) (bs : List (BitVec 8)) (hl : isB l bs) (hn : bs.length ≤ 140737488351250) : LValid P 77 [.c (.bor 1 l)] [] (fun v m1 => ∃ t, t = w16 (crcSum bs) ∧ v = u16 t ∧ m1 = []) := by
 obtain ⟨I, hI⟩ := ref
 have hle : I.len l = bs.length := by rw [hI]; exact hl.len
 refine fn_sim hI (mo hp) (cc hp c77) fun Post hP => ?_
 cbv
 refine .loop_next (fun n ts m => ∃ (i : Nat) (z c s : Int), n = bs.length - i ∧ isN z i ∧ isN c bs.length ∧ i ≤ bs.length ∧ s = w16 (sumFrom 0xffff#16 (bs.take i)) ∧
   ts = fr 30 [(3, u16 s), (7, .one (.c (.bor 1 l))), (8, i64 c), (9, i64 z)] ∧ m = [])
  bs.length _ _ [] [] [3, 7, 8, 9] (by decide) rfl rfl rfl ⟨0, 0, I.ofNat (I.len l), 65535, rfl, rfl, by rw [hle, hI]; rfl, Nat.zero_le _, rfl, rfl, rfl⟩ ?_
 rintro next n hnext ts m ⟨i, z, c, s, hn, hz, hc, hi, hs, rfl, rfl⟩
 cbv
 refine .br (fun g1 => ?_) (fun g1 => ?_)
 ·have hi1 : i < bs.length := by
   have : z < c := by simpa [hI, ints, rCmp] using g1
   unfold isN at hz hc
   omega
  obtain ⟨b, hb⟩ : ∃ b, bs[i]? = some b := ⟨_, List.getElem?_eq_getElem hi1⟩
  have hr := hl.get hb
  have hz1 : isN (I.bin .add .i64 z 1) (i + 1) := by unfold isN at hz ⊢; rw [hI]; simp only [ints, rBin]; rw [wrap_in] <;> omega
  have htk : bs.take (i + 1) = bs.take i ++ [b] := by rw [List.take_add_one, hb]; rfl
  generalize hwb : w8 b = wb at hr
  cbv
  refine .idx i hz (show i < I.len l from by rw [hle]; exact hi1) (.nth _ hr ?_)
  cbv
  obtain ⟨σ, hσ⟩ : ∃ σ, σ = sumFrom 0xffff#16 (bs.take i) ^^^ (b.setWidth 16 <<< 8) := ⟨_, rfl⟩
  have hs1 : I.bin .xor .u16 s (I.bin .shl .u16 (I.conv .u16 wb) 8) = w16 (bsteps 0 σ) := by
   rw [hI, hs, ← hwb]
   show rBin .xor .u16 _ (rBin .shl .u16 (IntKind.u16.wrap (w8 b)) ((8 : Nat) : Int)) = _
   rw [wide, shl16 _ 8 (by omega), xor16, hσ]
   rfl
  have hend : bsteps 8 σ = sumFrom 0xffff#16 (bs.take (i + 1)) := by rw [htk, sumFrom_app, hσ]; rfl
  refine .loop_next (fun n ts m => ∃ (j : Nat) (y s : Int), n = 8 - j ∧ isN y j ∧ j ≤ 8 ∧ s = w16 (bsteps j σ) ∧
    ts = fr 30 [(3, u16 s), (7, .one (.c (.bor 1 l))), (8, i64 c), (9, i64 z), (18, i64 y)] ∧ m = [])
   8 _ _ [] [] [3, 7, 8, 9, 18] (by decide) rfl rfl rfl ⟨0, 0, _, rfl, rfl, by omega, hs1, rfl, rfl⟩ ?_
  rintro next2 n2 hnext2 ts m ⟨j, y, s2, hn2, hy, hj, hs2, rfl, rfl⟩
  cbv
  refine .br (fun g2 => ?_) (fun g2 => ?_)
  ·have hj1 : j < 8 := by
    have : y < 8 := by simpa [hI, ints, rCmp] using g2
    unfold isN at hy
    omega
   have hy1 : isN (I.bin .add .i64 y 1) (j + 1) := by unfold isN at hy ⊢; rw [hI]; simp only [ints, rBin]; rw [wrap_in] <;> omega
   have hs3 : I.bin .xor .u16 (I.bin .shl .u16 s2 1) (I.bin .mul .u16 (I.bin .shr .u16 s2 15) 4129) = w16 (bsteps (j + 1) σ) := by
    rw [hI, hs2, bsteps_add]
    show rBin .xor .u16 (rBin .shl .u16 (w16 (bsteps j σ)) ((1 : Nat) : Int)) (rBin .mul .u16 (rBin .shr .u16 (w16 (bsteps j σ)) ((15 : Nat) : Int)) (w16 0x1021#16)) = _
    rw [shl16 _ 1 (by omega), shr16 _ 15 (by omega), mul16, xor16]
    rfl
   cbv
   exact hnext2 _ _ (8 - (j + 1)) [] [] [3, 7, 8, 9, 18] _ _ (by omega) (by decide) rfl rfl rfl ⟨j + 1, _, _, rfl, hy1, hj1, hs3, rfl, rfl⟩
  ·have hj1 : j = 8 := by
    have : ¬ y < 8 := by simpa [hI, ints, rCmp] using g2
    unfold isN at hy
    omega
   cbv
   exact hnext _ _ (bs.length - (i + 1)) [] [] [3, 7, 8, 9] _ _ (by omega) (by decide) rfl rfl rfl ⟨i + 1, _, c, _, rfl, hz1, hc, hi1, (by rw [hs2, hj1, hend]; rfl), rfl, rfl⟩
 ·have hi1 : i = bs.length := by
   have : ¬ z < c := by simpa [hI, ints, rCmp] using g1
   unfold isN at hz hc
   omega
  cbv
  exact hP _ _ [] [] _ _ .nil rfl rfl rfl rfl rfl ⟨_, by rw [hs, hi1, List.take_length]; rfl, rfl, rfl⟩
end
end Go.Proofs.Ytofdnnjkfpomcaa.E

/- Contracts: seals, what is opened, spoilt bytes. -/
namespace Go.Proofs.Ytofdnnjkfpomcaa.E
open Go
set_option linter.unusedVariables false
set_option maxRecDepth 100000

def sealB (y : List (BitVec 8)) : List (BitVec 8) := y ++ [hi8 (crcSum y), lo8 (crcSum y)]
theorem sealB_len (y : List (BitVec 8)) : (sealB y).length = y.length + 2 := by simp [sealB]
/-- Is it a seal? -/
def isSeal (x : List (BitVec 8)) : Bool := sealB (x.take (x.length - 2)) == x
theorem split2 (x : List (BitVec 8)) (h : 2 ≤ x.length) : ∃ a b, x = x.take (x.length - 2) ++ [a, b] := by
 have h1 : (x.drop (x.length - 2)).length = 2 := by rw [List.length_drop]; omega
 match hq : x.drop (x.length - 2), h1 with
 | [a, b], _ => exact ⟨a, b, by rw [← hq, List.take_append_drop]⟩
theorem isSeal_iff (x : List (BitVec 8)) (h : 2 ≤ x.length) : isSeal x = (crcSum x == 0#16) := by
 obtain ⟨a, b, hx⟩ := split2 x h
 generalize hy : x.take (x.length - 2) = y at hx
 have hs := seal_zero y a b
 rw [← hx] at hs
 unfold isSeal sealB
 rw [hy]
 by_cases h0 : crcSum x = 0#16
 ·obtain ⟨e1, e2⟩ := hs.1 h0
  rw [h0, ← e1, ← e2, ← hx]
  simp
 ·have : ¬ (y ++ [hi8 (crcSum y), lo8 (crcSum y)] = x) := fun e => by
   rw [hx] at e
   have e3 := List.append_cancel_left e
   simp at e3
   exact h0 (hs.2 ⟨e3.1.symm, e3.2.symm⟩)
  rw [beq_eq_false_iff_ne.2 this, beq_eq_false_iff_ne.2 h0]
theorem seal_is (y : List (BitVec 8)) : isSeal (sealB y) = true := by
 unfold isSeal
 rw [sealB_len, show y.length + 2 - 2 = y.length from by omega]
 simp [sealB]
theorem seal_sum (y : List (BitVec 8)) : crcSum (sealB y) = 0#16 := (seal_zero y _ _).2 ⟨rfl, rfl⟩
theorem seal_take (y : List (BitVec 8)) : (sealB y).take ((sealB y).length - 2) = y := by
 rw [sealB_len, show y.length + 2 - 2 = y.length from by omega]
 simp [sealB]
/-- How far a byte is behind the mask's first digit: no difference where numbers go round. -/
theorem by_wrap (a : Nat) (bit : Int) (ha : a ≤ 1000000000) (hb : -9223372036854775808 ≤ bit ∧ bit ≤ 9223372036854775807) : IntKind.i64.wrap (8 * (a : Int) - bit) = 8 * (a : Int) - bit ∨ (IntKind.i64.wrap (8 * (a : Int) - bit) ≤ -8 ∧ 16 ≤ 8 * (a : Int) - bit) := by
 rw [IntKind.wrap_i64]
 omega
theorem pat_out (mask : BitVec 16) (bit : Int) (a : Nat) (h : 8 * (a : Int) - bit ≤ -8 ∨ 16 ≤ 8 * (a : Int) - bit) : pat mask bit a = 0#8 := by unfold pat; rw [if_pos h]
def w32 (b : BitVec 32) : Int := (b.toNat : Int)
theorem u32w (n : Int) : IntKind.u32.wrap n = n % 4294967296 := by simp [IntKind.wrap, IntKind.bits, IntKind.signed]
theorem wide32 (c : BitVec 16) : IntKind.u32.wrap (w16 c) = w32 (c.setWidth 32) := by
 rw [u32w]
 unfold w16 w32
 rw [BitVec.toNat_setWidth, Int.natCast_emod]
 rfl
theorem narrow32 (c : BitVec 32) : IntKind.u8.wrap (w32 c) = w8 (c.setWidth 8) := by
 rw [u8w]
 unfold w8 w32
 rw [BitVec.toNat_setWidth, Int.natCast_emod]
 rfl
theorem shl32 (a : BitVec 32) (n : Nat) (h : n ≤ 32) : rBin .shl .u32 (w32 a) (n : Int) = w32 (a <<< n) := by
 show IntKind.u32.wrap (w32 a * 2 ^ (min ((n : Int)).toNat 32)) = _
 rw [u32w, Int.toNat_natCast, Nat.min_eq_left h]
 unfold w32
 rw [BitVec.toNat_shiftLeft, Nat.shiftLeft_eq, Int.natCast_emod, Int.natCast_mul, Int.natCast_pow]
 rfl
theorem shr32 (a : BitVec 32) (n : Nat) (h : n ≤ 32) : rBin .shr .u32 (w32 a) (n : Int) = w32 (a >>> n) := by
 show (w32 a).fdiv (2 ^ (min ((n : Int)).toNat 32)) = _
 rw [Int.toNat_natCast, Nat.min_eq_left h, Int.fdiv_eq_ediv_of_nonneg _ (Int.pow_nonneg (by decide))]
 unfold w32
 rw [BitVec.toNat_ushiftRight, Nat.shiftRight_eq_div_pow, Int.natCast_ediv, Int.natCast_pow]
 rfl
/-- The byte as the code turns it. -/
theorem pat_code (mask : BitVec 16) (bit d : Int) (a : Nat) (c : BitVec 8) (hd : d = 8 * (a : Int) - bit) (h1 : -8 < d) (h2 : d < 16) :
  ints.bin .xor .u8 (w8 c) (ints.conv .u8 (ints.bin .shr .u32 (ints.bin .shl .u32 (ints.bin .shl .u32 (ints.conv .u32 (w16 mask)) 8) (ints.bin .add .i64 d 8)) 24)) = w8 (c ^^^ pat mask bit a) := by
 obtain ⟨n, hn⟩ : ∃ n : Nat, d + 8 = n := ⟨(d + 8).toNat, by omega⟩
 have e : ints.bin .add .i64 d 8 = (n : Int) := by
  show IntKind.i64.wrap (d + 8) = _
  rw [wrap_in] <;> omega
 rw [e]
 show rBin .xor .u8 (w8 c) (IntKind.u8.wrap (rBin .shr .u32 (rBin .shl .u32 (rBin .shl .u32 (IntKind.u32.wrap (w16 mask)) ((8 : Nat) : Int)) (n : Int)) ((24 : Nat) : Int))) = _
 rw [wide32, shl32 _ 8 (by omega), shl32 _ n (by omega), shr32 _ 24 (by omega), narrow32, xor8]
 unfold pat
 rw [if_neg (by omega), ← hd, hn, Int.toNat_natCast]
section
variable {P : Program} (hp : P = Try.prog)
include hp
theorem seal_ (l : List (List G)) (bs : List (BitVec 8)) (hl : isB l bs) (hn : bs.length ≤ 140737488351250) : LValid P 69 [.c (.bor 1 l)] [] (fun v m1 => ∃ l', isB l' (sealB bs) ∧ v = .one (.c (.row 0 1 none)) ∧ m1 = [.sym 1 l']) := by
 obtain ⟨I, hI⟩ := ref
 refine fn_sim hI (mo hp) (cc hp c69) fun Post hP => ?_
 cbv
 refine .go [] [] [] (sum hp l bs hl hn) rfl rfl rfl rfl rfl rfl ?_
 rintro v m1 ⟨t, ht, rfl, rfl⟩
 have hx : I.conv .u8 (I.bin .shr .u16 t 8) = w8 (hi8 (crcSum bs)) := by
  rw [hI, ht]
  show IntKind.u8.wrap (rBin .shr .u16 (w16 (crcSum bs)) ((8 : Nat) : Int)) = _
  rw [shr16 _ 8 (by omega), narrow]
  rfl
 have hy : I.conv .u8 t = w8 (lo8 (crcSum bs)) := by
  rw [hI, ht]
  show IntKind.u8.wrap (w16 (crcSum bs)) = _
  rw [narrow]
  rfl
 have hB : isB (l ++ [[.int .u8 (.sym (I.conv .u8 (I.bin .shr .u16 t 8)))], [.int .u8 (.sym (I.conv .u8 t))]]) (sealB bs) := by
  rw [hx, hy]
  exact hl.app rfl
 cbv
 refine .go [1] [] [] (concat2 hp l [[.int .u8 (.sym (I.conv .u8 (I.bin .shr .u16 t 8)))], [.int .u8 (.sym (I.conv .u8 t))]] rfl (by rw [hl.len]; exact hn)) rfl rfl rfl rfl rfl rfl ?_
 rintro v m1 ⟨rfl, rfl⟩
 generalize hw : l ++ [[.int .u8 (.sym (I.conv .u8 (I.bin .shr .u16 t 8)))], [.int .u8 (.sym (I.conv .u8 t))]] = l' at hB
 cbv
 exact hP _ _ [2] [] _ _ (by decide) rfl rfl rfl rfl rfl ⟨_, hB, rfl, by rw [← hw]; rfl⟩
theorem open_ (l : List (List G)) (bs : List (BitVec 8)) (hl : isB l bs) (hn : bs.length ≤ 140737488351250) : LValid P 70 [.c (.bor 1 l)] []
  (fun v m1 => (2 ≤ bs.length ∧ isSeal bs = true ∧ ∃ l', isB l' (bs.take (bs.length - 2)) ∧ v = .tup [.c (.row 0 1 none), gb true] ∧ m1 = [.sym 1 l']) ∨ (¬ (2 ≤ bs.length ∧ isSeal bs = true) ∧ v = .tup [.c (.g .nil), gb false] ∧ m1 = [])) := by
 refine LValid.syv (R := fun v m1 => (2 ≤ bs.length ∧ isSeal bs = true ∧ ∃ l', isB l' (bs.take (bs.length - 2)) ∧ v = .tup [.c (.row 0 1 none), .c (.g (.bool (.lit true)))] ∧ m1 = [.sym 1 l']) ∨ (¬ (2 ≤ bs.length ∧ isSeal bs = true) ∧ v = .tup [.c (.g .nil), .c (.g (.bool (.lit false)))] ∧ m1 = [])) ?_
  (fun v m1 h => h.imp (fun ⟨h1, h2, l', h3, h4, h5⟩ => ⟨h1, h2, l', h3, by rw [h4]; rfl, h5⟩) (fun ⟨h1, h2, h3⟩ => ⟨h1, by rw [h2]; rfl, h3⟩))
 obtain ⟨I, hI⟩ := ref
 have hle : I.len l = bs.length := by rw [hI]; exact hl.len
 have hnn : I.bin .sub .i64 (I.ofNat (I.len l)) 2 = (bs.length : Int) - 2 := by
  rw [hle, hI]
  show IntKind.i64.wrap ((bs.length : Int) - 2) = _
  rw [wrap_in] <;> omega
 refine fn_sim hI (mo hp) (cc hp c70) fun Post hP => ?_
 cbv
 refine .br (fun g1 => ?_) (fun g1 => ?_)
 ·have h1 : ¬ (2 ≤ bs.length) := by
   have h' : rCmp .lss (I.bin .sub .i64 (I.ofNat (I.len l)) 2) 0 = true := by rw [hI] at g1 ⊢; exact g1
   rw [hnn] at h'
   have : (bs.length : Int) - 2 < 0 := by simpa [rCmp] using h'
   omega
  cbv
  exact hP _ _ [] [] _ _ .nil rfl rfl rfl rfl rfl (.inr ⟨fun h => h1 h.1, rfl, rfl⟩)
 ·have h1 : 2 ≤ bs.length := by
   have h' : rCmp .lss (I.bin .sub .i64 (I.ofNat (I.len l)) 2) 0 = false := by rw [hI] at g1 ⊢; exact g1
   rw [hnn] at h'
   have : ¬ (bs.length : Int) - 2 < 0 := by simpa [rCmp] using h'
   omega
  have hk : I.bin .sub .i64 (I.ofNat (I.len l)) 2 = ((bs.length - 2 : Nat) : Int) := by rw [hnn]; exact (Int.ofNat_sub h1).symm
  have hkl : bs.length - 2 ≤ I.len l := by rw [hle]; omega
  have hE : isB (I.ext l 0 (bs.length - 2)) (bs.take (bs.length - 2)) := by rw [hI]; exact hl.take _
  have hEl : (bs.take (bs.length - 2)).length ≤ 140737488351250 := by rw [List.length_take]; omega
  have hm : I.len (I.ext l 0 (bs.length - 2)) ≤ 140737488355328 := by rw [hI]; show (List.length _) ≤ _; rw [← hI, hE.len]; omega
  generalize hkk : bs.length - 2 = k at hk hkl hE hEl hm
  generalize hx : I.ext l 0 k = lx at hE hm
  cbv
  refine .rng 0 k rfl hk (Nat.zero_le _) hkl ?_
  cbv
  refine .go [] [] [] (seal_ hp lx _ hE hEl) rfl rfl rfl rfl (by rw [← hx]; rfl) rfl ?_
  rintro v m1 ⟨l', hl', rfl, rfl⟩
  cbv
  refine .go [] [] [.bor 1] (equalB hp l' l _ _ hl' hl) rfl rfl rfl rfl rfl rfl ?_
  rintro v m1 ⟨t, ht, rfl, rfl⟩
  have hs : isSeal bs = t := by unfold isSeal; rw [hkk, ht]
  have hm1 : lx.length ≤ 140737488355328 := by rw [hE.len]; omega
  cbv
  refine .br (fun g2 => ?_) (fun g2 => ?_)
  ·have h2 : t = false := by simpa [hI, ints] using g2
   cbv
   exact hP _ _ [] [] _ _ .nil rfl rfl rfl rfl rfl (.inr ⟨fun h => by rw [hs, h2] at h; exact absurd h.2 (by decide), rfl, rfl⟩)
  ·have h2 : t = true := by simpa [hI, ints] using g2
   cbv
   refine .rng 0 k rfl hk (Nat.zero_le _) hkl ?_
   cbv
   refine .go [] [] [] (cloneB hp lx hm1) rfl rfl rfl rfl (by rw [← hx]; rfl) rfl ?_
   rintro v m1 ⟨rfl, rfl⟩
   cbv
   exact hP _ _ [1] [] _ _ (by decide) rfl rfl rfl rfl rfl (.inl ⟨h1, by rw [hs, h2], lx, by rw [hkk]; exact hE, rfl, rfl⟩)
theorem spoil (l : List (List G)) (bs : List (BitVec 8)) (hl : isB l bs) (hn : bs.length ≤ 1000000000) (zb : Z) (hb : -9223372036854775808 ≤ zb.val ∧ zb.val ≤ 9223372036854775807) (zm : Z) (mask : BitVec 16) (hmask : zm.val = w16 mask) : LValid P 57 [.c (.bor 1 l), .c (.g (.int .i64 zb)), .c (.g (.int .u16 zm))] []
  (fun v m1 => ∃ l', isB l' (spoilt mask zb.val 0 bs) ∧ v = .one (.c (.row 0 1 none)) ∧ m1 = [.sym 1 l']) := by
 refine LValid.sy ?_
 show LValid P 57 [.c (.bor 1 l), .c (.g (.int .i64 (.sym zb.val))), .c (.g (.int .u16 (.sym zm.val)))] [] _
 generalize zb.val = bit at hb
 generalize zm.val = q at hmask
 obtain ⟨I, hI⟩ := ref
 have hle : I.len l = bs.length := by rw [hI]; exact hl.len
 refine fn_sim hI (mo hp) (cc hp c57) fun Post hP => ?_
 cbv
 refine .go [] [] [] (cloneB hp l (by rw [hl.len]; omega)) rfl rfl rfl rfl rfl rfl ?_
 rintro v m1 ⟨rfl, rfl⟩
 cbv
 refine .loop_next (fun n ts m => ∃ (i : Nat) (z c : Int) (L : List (List G)), n = bs.length - i ∧ isN z i ∧ isN c bs.length ∧ i ≤ bs.length ∧ isB L ((spoilt mask bit 0 bs).take i ++ bs.drop i) ∧
   ts = fr 45 [(1, i64 bit), (2, u16 q), (7, .one (.c (.row 0 1 none))), (13, i64 c), (14, i64 z)] ∧ m = [.sym 1 L])
  bs.length _ _ [0] [] [1, 2, 7, 13, 14] (by decide) rfl rfl rfl ⟨0, 0, I.ofNat (I.len l), l, rfl, rfl, by rw [hle, hI]; rfl, Nat.zero_le _, hl, rfl, rfl⟩ ?_
 rintro next n hnext ts m ⟨i, z, c, L, hn2, hz, hc, hi, hL, rfl, rfl⟩
 have hLl : I.len L = bs.length := by
  have := hL.len
  rw [hI]
  show L.length = _
  rw [this, List.length_append, List.length_take, List.length_drop, spoilt_len]
  omega
 cbv
 refine .br (fun g1 => ?_) (fun g1 => ?_)
 ·have hi1 : i < bs.length := by
   have : z < c := by simpa [hI, ints, rCmp] using g1
   unfold isN at hz hc
   omega
  have hz1 : isN (I.bin .add .i64 z 1) (i + 1) := by unfold isN at hz ⊢; rw [hI]; simp only [ints, rBin]; rw [wrap_in] <;> omega
  obtain ⟨b, hb2⟩ : ∃ b, bs[i]? = some b := ⟨_, List.getElem?_eq_getElem hi1⟩
  have hsg := spoilt_get mask bit bs 0 i
  rw [hb2, Nat.zero_add, Option.map_some] at hsg
  have hstep : ∀ x, x = b ^^^ pat mask bit i → isB (L.set i [.int .u8 (.sym (w8 x))]) ((spoilt mask bit 0 bs).take (i + 1) ++ bs.drop (i + 1)) := fun x hx => by
   unfold isB at hL ⊢
   rw [hL]
   have hd : bs.drop i = b :: bs.drop (i + 1) := by
    rw [List.drop_eq_getElem_cons hi1]
    congr 1
    have := List.getElem?_eq_getElem hi1
    rw [hb2] at this
    exact (Option.some.inj this).symm
   rw [hd, List.take_add_one, hsg, hx]
   have htl : ((spoilt mask bit 0 bs).take i).length = i := by rw [List.length_take, spoilt_len]; omega
   unfold nrow
   simp only [List.map_append, List.map_cons, Option.toList, List.append_assoc, List.map_nil]
   rw [List.set_append_right _ _ (by simp only [List.length_map]; omega)]
   rw [List.length_map, List.length_map, htl, Nat.sub_self]
   rfl
  have hsame : b = b ^^^ pat mask bit i → isB L ((spoilt mask bit 0 bs).take (i + 1) ++ bs.drop (i + 1)) := fun hx => by
   have h1 := hstep b hx
   have h2 : L.set i [.int .u8 (.sym (w8 b))] = L := by
    apply List.ext_getElem?
    intro k
    rw [List.getElem?_set]
    by_cases hk : i = k
    ·subst hk
     have : L[i]? = some [.int .u8 (.sym (w8 b))] := hL.get (by
      rw [List.getElem?_append_right (by rw [List.length_take, spoilt_len]; omega), List.length_take, spoilt_len, List.getElem?_drop]
      rw [← hb2]
      congr 1
      omega)
     have hil : i < L.length := (List.getElem?_eq_some_iff.1 this).1
     rw [if_pos rfl, if_pos hil, this]
    ·simp [hk]
   rwa [h2] at h1
  have hLi : L[i]? = some [.int .u8 (.sym (w8 b))] := hL.get (by
   rw [List.getElem?_append_right (by rw [List.length_take, spoilt_len]; omega), List.length_take, spoilt_len, List.getElem?_drop]
   rw [← hb2]
   congr 1
   omega)
  obtain ⟨d, hd⟩ : ∃ d, d = I.bin .sub .i64 (I.bin .mul .i64 8 z) bit := ⟨_, rfl⟩
  have hdv : d = IntKind.i64.wrap (8 * (i : Int) - bit) := by
   unfold isN at hz
   rw [hd, hI, hz]
   show IntKind.i64.wrap (IntKind.i64.wrap (8 * (i : Int)) - bit) = _
   rw [wrap_in (8 * (i : Int)) (by omega) (by omega)]
  have hw := by_wrap i bit (by omega) hb
  rw [← hdv] at hw
  have hskip : (d ≤ -8 ∨ 16 ≤ d) → b = b ^^^ pat mask bit i := fun h => by
   rw [pat_out mask bit i (by omega), BitVec.xor_zero]
  have hdo : ¬ (d ≤ -8 ∨ 16 ≤ d) → I.bin .xor .u8 (w8 b) (I.conv .u8 (I.bin .shr .u32 (I.bin .shl .u32 (I.bin .shl .u32 (I.conv .u32 q) 8) (I.bin .add .i64 d 8)) 24)) = w8 (b ^^^ pat mask bit i) := fun h => by
   rw [hI, hmask]
   exact pat_code mask bit d i b (by omega) (by omega) (by omega)
  have hsh : ¬ (d ≤ -8 ∨ 16 ≤ d) → 0 ≤ I.bin .add .i64 d 8 := fun h => by
   rw [hI]
   show 0 ≤ IntKind.i64.wrap (d + 8)
   rw [wrap_in] <;> omega
  rw [hd] at hskip hdo hsh
  generalize hwb : w8 b = wb at hLi hdo
  have hstep2 := hstep _ rfl
  generalize hwx : w8 (b ^^^ pat mask bit i) = wx at hstep2 hdo
  have dole : ∀ x : Bool, I.cmp .leq (I.bin .sub .i64 (I.bin .mul .i64 8 z) bit) (-8) = x → decide (d ≤ -8) = x := fun x h => by rw [← hd, hI] at h; exact h
  have doge : ∀ x : Bool, I.cmp .geq (I.bin .sub .i64 (I.bin .mul .i64 8 z) bit) 16 = x → decide (d ≥ 16) = x := fun x h => by rw [← hd, hI] at h; exact h
  rw [← hd] at hskip hdo hsh
  rw [hd] at hdo hsh
  have hil : i < I.len L := by rw [hLl]; exact hi1
  have hset : I.set L i [.int .u8 (.sym wx)] = L.set i [.int .u8 (.sym wx)] := by rw [hI]; rfl
  cbv
  refine .br (fun g2 => ?_) (fun g2 => ?_)
  ·have h2 := hsame (hskip (.inl (of_decide_eq_true (dole _ g2))))
   cbv
   exact hnext _ _ (bs.length - (i + 1)) [0] [] [1, 2, 7, 13, 14] _ _ (by omega) (by decide) rfl rfl rfl ⟨i + 1, _, c, L, rfl, hz1, hc, hi1, h2, rfl, rfl⟩
  have h2 := of_decide_eq_false (dole _ g2)
  cbv
  refine .br (fun g3 => ?_) (fun g3 => ?_)
  ·have h2 := hsame (hskip (.inr (of_decide_eq_true (doge _ g3))))
   cbv
   exact hnext _ _ (bs.length - (i + 1)) [0] [] [1, 2, 7, 13, 14] _ _ (by omega) (by decide) rfl rfl rfl ⟨i + 1, _, c, L, rfl, hz1, hc, hi1, h2, rfl, rfl⟩
  have h3 := of_decide_eq_false (doge _ g3)
  have hno : ¬ (d ≤ -8 ∨ 16 ≤ d) := fun h => h.elim h2 h3
  rw [hd] at hno
  replace hdo := hdo hno
  replace hsh := hsh hno
  cbv
  refine .drawn [0] ?_
  cbv
  refine .idx i hz hil ?_
  cbv
  refine .nonneg hsh ?_
  cbv
  refine .nth _ hLi ?_
  cbv
  refine .idx i hz hil ?_
  cbv
  refine .nth _ hLi ?_
  cbv
  exact hnext _ _ (bs.length - (i + 1)) [0] [] [1, 2, 7, 13, 14] _ _ (by omega) (by decide) rfl rfl rfl ⟨i + 1, _, c, _, rfl, hz1, hc, hi1, (by rw [← hset, ← hdo] at hstep2; exact hstep2), rfl, rfl⟩
 ·have hi1 : i = bs.length := by
   have : ¬ z < c := by simpa [hI, ints, rCmp] using g1
   unfold isN at hz hc
   omega
  have hL2 : isB L (spoilt mask bit 0 bs) := by
   rw [hi1, List.drop_length, List.append_nil, List.take_of_length_le (by rw [spoilt_len]; omega)] at hL
   exact hL
  cbv
  exact hP _ _ [0] [] _ _ (by decide) rfl rfl rfl rfl rfl ⟨_, hL2, rfl, rfl⟩
end
end Go.Proofs.Ytofdnnjkfpomcaa.E

/- Contracts: packets: which may be; their bytes. -/
namespace Go.Proofs.Ytofdnnjkfpomcaa.E
open Go
set_option linter.unusedVariables false
set_option maxRecDepth 100000

/-- A packet. -/
structure PK where
 k : Int
 f : Int
 t : Int
 i : Int
 l : Int
 p : Int
 s : Int
 b : Bool
 d : List Int
 deriving DecidableEq
def PK.row (q : PK) (D : List (List G)) : List G := [.int .i64 (.sym q.k), .int .i64 (.sym q.f), .int .i64 (.sym q.t), .int .i64 (.sym q.i), .int .i64 (.sym q.l), .int .i64 (.sym q.p), .int .i64 (.sym q.s), .bool (.sym q.b), .rows 1 D]
/-- A packet that is told, its data in cell c. -/
def PK.told (q : PK) (c : C) : V1 := .agg [.g (.int .i64 (.sym q.k)), .g (.int .i64 (.sym q.f)), .g (.int .i64 (.sym q.t)), .g (.int .i64 (.sym q.i)), .g (.int .i64 (.sym q.l)), .g (.int .i64 (.sym q.p)), .g (.int .i64 (.sym q.s)), .g (.bool (.sym q.b)), c]
def PK.nought : PK := ⟨0, 0, 0, 0, 0, 0, 0, false, []⟩
structure PZ where
 k : Z
 f : Z
 t : Z
 i : Z
 l : Z
 p : Z
 s : Z
 b : BB
def PZ.pk (q : PZ) (d : List Int) : PK := ⟨q.k.val, q.f.val, q.t.val, q.i.val, q.l.val, q.p.val, q.s.val, q.b.val, d⟩
/-- A packet that is handed in, its data lent. -/
def PZ.arg (q : PZ) (D : List (List G)) : V1 := .agg [.g (.int .i64 q.k), .g (.int .i64 q.f), .g (.int .i64 q.t), .g (.int .i64 q.i), .g (.int .i64 q.l), .g (.int .i64 q.p), .g (.int .i64 q.s), .g (.bool q.b), .bor 1 D]
def isP (L : List (List G)) (ps : List PK) : Prop := L = ps.map fun q => q.row (nrow .i64 q.d)
theorem isP.len {L : List (List G)} {ps : List PK} (h : isP L ps) : L.length = ps.length := by rw [h]; simp
theorem isP.get {L : List (List G)} {ps : List PK} (h : isP L ps) {i : Nat} {q : PK} (hq : ps[i]? = some q) : ∃ D, isL .i64 D q.d ∧ L[i]? = some (q.row D) := ⟨nrow .i64 q.d, rfl, by rw [h]; simp [hq]⟩
theorem isP.app {L : List (List G)} {ps : List PK} (h : isP L ps) (q : PK) (D : List (List G)) (hD : isL .i64 D q.d) : isP (L ++ [q.row D]) (ps ++ [q]) := by unfold isP at h ⊢; rw [h, hD]; simp
def belB (n a b : Int) : Bool := decide (a ≤ n) && decide (n < b)
def checkB (q : PK) : Bool := belB q.f 0 6 && belB q.t 0 6 && belB q.i 0 4096 && (belB q.k 1 10 && belB q.l 0 8 && belB q.p (-1) 6) && belB q.s 0 3 && decide (q.d.length ≤ 4)
/-- The byte of a number from the digit n on. -/
def byteAt (v : Int) (n : Nat) : BitVec 8 := BitVec.ofInt 8 (v.fdiv (2 ^ n))
theorem w8_ofInt (x : Int) : w8 (BitVec.ofInt 8 x) = x % 256 := by
 unfold w8
 rw [BitVec.toNat_ofInt]
 have h1 := Int.emod_nonneg x (show (256 : Int) ≠ 0 by decide)
 show ((x % 256).toNat : Int) = _
 omega
theorem byte_code (v : Int) (n : Nat) (h : n ≤ 64) : IntKind.u8.wrap (rBin .shr .i64 v (n : Int)) = w8 (byteAt v n) := by
 show IntKind.u8.wrap (v.fdiv (2 ^ (min ((n : Int)).toNat 64))) = _
 rw [u8w, Int.toNat_natCast, Nat.min_eq_left h]
 exact (w8_ofInt _).symm
theorem byte_conv (v : Int) : IntKind.u8.wrap v = w8 (BitVec.ofInt 8 v) := by rw [u8w, w8_ofInt]
def wordB (v : Int) : List (BitVec 8) := [byteAt v 56, byteAt v 48, byteAt v 40, byteAt v 32, byteAt v 24, byteAt v 16, byteAt v 8, byteAt v 0]
def headB (q : PK) : List (BitVec 8) := [BitVec.ofInt 8 q.k, BitVec.ofInt 8 q.f, BitVec.ofInt 8 q.t, byteAt q.i 8, BitVec.ofInt 8 q.i, BitVec.ofInt 8 q.l, BitVec.ofInt 8 (IntKind.i64.wrap (q.p + 1)), BitVec.ofInt 8 q.s, (if q.b then 1#8 else 0#8), BitVec.ofInt 8 (q.d.length : Int)]
def packB (q : PK) : List (BitVec 8) := headB q ++ q.d.flatMap wordB
def isW (z : Int) (k : Nat) : Prop := z = 56 - 8 * (k : Int)
theorem words_len (d : List Int) : (d.flatMap wordB).length = 8 * d.length := by
 induction d with
 | nil => rfl
 | cons x d ih =>
  rw [List.flatMap_cons, List.length_append, ih]
  show 8 + 8 * d.length = 8 * (d.length + 1)
  omega
theorem packB_len (q : PK) : (packB q).length = 10 + 8 * q.d.length := by
 unfold packB
 rw [List.length_append, words_len]
 rfl
section
variable {P : Program} (hp : P = Try.prog)
include hp
theorem below (n a b : Z) : LValid P 53 [.c (.g (.int .i64 n)), .c (.g (.int .i64 a)), .c (.g (.int .i64 b))] [] (fun v m1 => ∃ t, t = belB n.val a.val b.val ∧ v = boo t ∧ m1 = []) := by
 refine bx (LValid.boo (LValid.sy ?_))
 show LValid P 53 [.c (.g (.int .i64 (.sym n.val))), .c (.g (.int .i64 (.sym a.val))), .c (.g (.int .i64 (.sym b.val)))] [] _
 generalize n.val = n, a.val = a, b.val = b
 obtain ⟨I, hI⟩ := ref
 have hX : ∀ q : Bool, I.cmp .geq n a = q → belB n a b = (q && I.cmp .lss n b) := fun q h => by
  rw [← h, hI]
  unfold belB
  show _ = (decide (n ≥ a) && decide (n < b))
  by_cases h2 : a ≤ n
  ·rw [decide_eq_true h2]
  ·rw [decide_eq_false h2]
 refine fn_sim hI (mo hp) (cc hp c53) fun Post hP => ?_
 cbv
 refine .br (fun g => ?_) (fun g => ?_)
 ·have g := hX _ g
  cbv
  exact hP _ _ [] [] _ _ .nil rfl rfl rfl rfl rfl ⟨_, rfl, g.symm, rfl⟩
 ·have g := hX _ g
  cbv
  exact hP _ _ [] [] _ _ .nil rfl rfl rfl rfl rfl ⟨_, rfl, g.symm, rfl⟩
theorem flag (b : BB) : LValid P 67 [.c (.g (.bool b))] [] (fun v m1 => ∃ t, t = w8 (if b.val then 1#8 else 0#8) ∧ v = u8 t ∧ m1 = []) := by
 refine nx (LValid.num (LValid.sy ?_))
 show LValid P 67 [.c (.g (.bool (.sym b.val)))] [] _
 generalize b.val = b
 obtain ⟨I, hI⟩ := ref
 refine fn_sim hI (mo hp) (cc hp c67) fun Post hP => ?_
 cbv
 refine .br (fun g => ?_) (fun g => ?_)
 ·have hX : (1 : Int) = w8 (if b then 1#8 else 0#8) := by rw [g]; rfl
  cbv
  exact hP _ _ [] [] _ _ .nil rfl rfl rfl rfl rfl ⟨_, rfl, hX, rfl⟩
 ·have hX : (0 : Int) = w8 (if b then 1#8 else 0#8) := by rw [g]; rfl
  cbv
  exact hP _ _ [] [] _ _ .nil rfl rfl rfl rfl rfl ⟨_, rfl, hX, rfl⟩
set_option maxHeartbeats 4000000 in
theorem check (z : PZ) (D : List (List G)) (d : List Int) (hD : isL .i64 D d) : LValid P 30 [z.arg D] [] (fun v m1 => ∃ t, t = (if checkB (z.pk d) then 0 else 1) ∧ v = i64 t ∧ m1 = []) := by
 refine nx (LValid.num (LValid.sy ?_))
 show LValid P 30 [.agg [.g (.int .i64 (.sym z.k.val)), .g (.int .i64 (.sym z.f.val)), .g (.int .i64 (.sym z.t.val)), .g (.int .i64 (.sym z.i.val)), .g (.int .i64 (.sym z.l.val)), .g (.int .i64 (.sym z.p.val)), .g (.int .i64 (.sym z.s.val)), .g (.bool (.sym z.b.val)), .bor 1 D]] [] _
 rw [show z.pk d = ⟨z.k.val, z.f.val, z.t.val, z.i.val, z.l.val, z.p.val, z.s.val, z.b.val, d⟩ from rfl]
 generalize z.k.val = k, z.f.val = f, z.t.val = t, z.i.val = i, z.l.val = l, z.p.val = p, z.s.val = s, z.b.val = b
 obtain ⟨I, hI⟩ := ref
 have hle : I.len D = d.length := by rw [hI]; exact hD.len
 have hlen := hD.len
 refine fn_sim hI (mo hp) (cc hp c30) fun Post hP => ?_
 cbv
 repeat' (first
  | (refine .go [] [] [] (below hp _ _ _) rfl rfl rfl rfl rfl rfl ?_; rintro r m1 ⟨y, hy, rfl, rfl⟩; cbv)
  | (refine .br (fun g => ?_) (fun g => ?_) <;> cbv))
 all_goals refine hP _ _ [] [] _ _ .nil rfl rfl rfl rfl rfl ⟨_, rfl, ?_, rfl⟩
 all_goals
  clear hP hD hle
  subst hI
  simp_all [checkB, Z.val, ints, rCmp]
  try omega
set_option maxHeartbeats 2000000 in
theorem word (v : Z) : LValid P 68 [.c (.g (.int .i64 v))] [] (fun r m1 => ∃ l, isB l (wordB v.val) ∧ r = .one (.c (.row 0 1 none)) ∧ m1 = [.sym 1 l]) := by
 refine LValid.sy ?_
 show LValid P 68 [.c (.g (.int .i64 (.sym v.val)))] [] _
 generalize v.val = v
 obtain ⟨I, hI⟩ := ref
 refine fn_sim hI (mo hp) (cc hp c68) fun Post hP => ?_
 cbv
 refine .own 3 1 rfl ?_
 refine .loop_next (fun n ts m => ∃ (k : Nat) (z : Int) (l : List (List G)), n = 8 - k ∧ isW z k ∧ k ≤ 8 ∧ isB l ((wordB v).take k) ∧
   ts = fr 17 [(0, i64 v), (3, .one (.c (.row 0 1 none))), (4, i64 z)] ∧ m = [.sym 1 l])
  8 _ _ [0] [] [0, 3, 4] (by decide) rfl rfl rfl ⟨0, 56, [], rfl, rfl, by omega, rfl, rfl, rfl⟩ ?_
 rintro next n hnext ts m ⟨k, z, l, hn, hz, hk, hl, rfl, rfl⟩
 have hzv : z = 56 - 8 * (k : Int) := hz
 have dge : ∀ q : Bool, I.cmp .geq z 0 = q → decide (k < 8) = q := fun q h => by
  rw [hI] at h
  rw [← h]
  show _ = decide (z ≥ 0)
  by_cases h2 : k < 8
  ·rw [decide_eq_true h2, decide_eq_true (by omega)]
  ·rw [decide_eq_false h2, decide_eq_false (by omega)]
 have hz1 : k < 8 → isW (I.bin .sub .i64 z 8) (k + 1) := fun h => by
  unfold isW
  rw [hI, hzv]
  show IntKind.i64.wrap (56 - 8 * (k : Int) - 8) = _
  rw [wrap_in] <;> omega
 have hnn : k < 8 → 0 ≤ z := fun h => by omega
 have hby : k < 8 → I.conv .u8 (I.bin .shr .i64 v z) = w8 (byteAt v (56 - 8 * k)) := fun h => by
  rw [hI, hzv]
  have e : 56 - 8 * (k : Int) = ((56 - 8 * k : Nat) : Int) := by omega
  rw [e]
  exact byte_code v _ (by omega)
 have htk : k < 8 → (wordB v).take (k + 1) = (wordB v).take k ++ [byteAt v (56 - 8 * k)] := fun h => by
  match k, h with
  | 0, _ => rfl
  | 1, _ => rfl
  | 2, _ => rfl
  | 3, _ => rfl
  | 4, _ => rfl
  | 5, _ => rfl
  | 6, _ => rfl
  | 7, _ => rfl
 have hap : k < 8 → isB (I.app l [[.int .u8 (.sym (I.conv .u8 (I.bin .shr .i64 v z)))]]) ((wordB v).take (k + 1)) := fun h => by
  rw [hby h, htk h, hI]
  exact hl.app rfl
 have hapl : k < 8 → I.len (I.app l [[.int .u8 (.sym (I.conv .u8 (I.bin .shr .i64 v z)))]]) ≤ 8 := fun h => by
  have := (hap h).len
  rw [List.length_take] at this
  rw [hI] at this ⊢
  show List.length _ ≤ _
  omega
 clear hzv
 cbv
 refine .br (fun g1 => ?_) (fun g1 => ?_)
 ·have hk1 : k < 8 := of_decide_eq_true (dge _ g1)
  replace hz1 := hz1 hk1
  replace hap := hap hk1
  replace hapl := hapl hk1
  cbv
  refine .nonneg (hnn hk1) ?_
  cbv
  refine .most (show I.len (I.app l [[.int .u8 (.sym (I.conv .u8 (I.bin .shr .i64 v z)))]]) * 1 ≤ 140737488355328 from by omega) (show I.len (I.app l [[.int .u8 (.sym (I.conv .u8 (I.bin .shr .i64 v z)))]]) ≤ 140737488355328 from by omega) ?_
  cbv
  exact hnext _ _ (8 - (k + 1)) [2] [] [0, 3, 4] _ _ (by omega) (by decide) rfl rfl rfl ⟨k + 1, _, _, rfl, hz1, hk1, hap, rfl, rfl⟩
 ·have hk1 : k = 8 := by have := of_decide_eq_false (dge _ g1); omega
  have hfin : isB l (wordB v) := by rw [hk1] at hl; exact hl
  cbv
  exact hP _ _ [0] [] _ _ (by decide) rfl rfl rfl rfl rfl ⟨_, hfin, rfl, rfl⟩
set_option maxHeartbeats 4000000 in
theorem pack (z : PZ) (D : List (List G)) (d : List Int) (hD : isL .i64 D d) : LValid P 55 [z.arg D] []
  (fun v m1 => (checkB (z.pk d) = false ∧ v = .tup [.c (.g .nil), gi .i64 1] ∧ m1 = []) ∨ (checkB (z.pk d) = true ∧ ∃ l, isB l (sealB (packB (z.pk d))) ∧ v = .tup [.c (.row 0 1 none), gi .i64 0] ∧ m1 = [.sym 1 l])) := by
 refine LValid.sy ?_
 show LValid P 55 [.agg [.g (.int .i64 (.sym z.k.val)), .g (.int .i64 (.sym z.f.val)), .g (.int .i64 (.sym z.t.val)), .g (.int .i64 (.sym z.i.val)), .g (.int .i64 (.sym z.l.val)), .g (.int .i64 (.sym z.p.val)), .g (.int .i64 (.sym z.s.val)), .g (.bool (.sym z.b.val)), .bor 1 D]] [] _
 rw [show z.pk d = ⟨z.k.val, z.f.val, z.t.val, z.i.val, z.l.val, z.p.val, z.s.val, z.b.val, d⟩ from rfl]
 generalize z.k.val = k, z.f.val = f, z.t.val = t, z.i.val = i, z.l.val = l, z.p.val = p, z.s.val = s, z.b.val = b
 refine LValid.syv (R := fun v m1 => (checkB ⟨k, f, t, i, l, p, s, b, d⟩ = false ∧ v = .tup [.c (.g .nil), gi .i64 1] ∧ m1 = []) ∨ (checkB ⟨k, f, t, i, l, p, s, b, d⟩ = true ∧ ∃ L, isB L (sealB (packB ⟨k, f, t, i, l, p, s, b, d⟩)) ∧ v = .tup [.c (.row 0 1 none), .c (.g (.int .i64 (.lit 0)))] ∧ m1 = [.sym 1 L])) ?_
  (fun v m1 h => h.imp (fun ⟨h1, h2, h3⟩ => ⟨h1, by rw [h2]; rfl, h3⟩) (fun ⟨h1, L, h2, h3, h4⟩ => ⟨h1, L, h2, by rw [h3]; rfl, h4⟩))
 obtain ⟨I, hI⟩ := ref
 have hle : I.len D = d.length := by rw [hI]; exact hD.len
 refine fn_sim hI (mo hp) (cc hp c55) fun Post hP => ?_
 cbv
 refine .go [] [] [] (check hp ⟨.sym k, .sym f, .sym t, .sym i, .sym l, .sym p, .sym s, .sym b⟩ D d hD) rfl rfl rfl rfl rfl rfl ?_
 rintro v m1 ⟨e, he, rfl, rfl⟩
 have he : e = if checkB ⟨k, f, t, i, l, p, s, b, d⟩ then 0 else 1 := he
 cases hc : checkB ⟨k, f, t, i, l, p, s, b, d⟩ with
 | false =>
  rw [hc] at he
  have he : e = 1 := he
  subst he
  cbv
  refine br_t (by rw [hI]; rfl) ?_
  cbv
  exact hP _ _ [] [] _ _ .nil rfl rfl rfl rfl rfl (.inl ⟨hc, rfl, rfl⟩)
 | true =>
  rw [hc] at he
  have he : e = 0 := he
  have hdl : d.length ≤ 4 := by
   unfold checkB at hc
   simp only [Bool.and_eq_true, decide_eq_true_eq] at hc
   exact hc.2
  have hck := hc
  clear hc
  subst he
  cbv
  refine br_f (by rw [hI]; rfl) ?_
  cbv
  refine .drawn [] ?_
  cbv
  refine .go [] [] [] (flag hp (.sym b)) rfl rfl rfl rfl rfl rfl ?_
  rintro r m1 ⟨fb, hfb, rfl, rfl⟩
  have hfb : fb = w8 (if b then 1#8 else 0#8) := hfb
  have q1 : I.conv .u8 k = w8 (BitVec.ofInt 8 k) := by rw [hI]; exact byte_conv k
  have q2 : I.conv .u8 f = w8 (BitVec.ofInt 8 f) := by rw [hI]; exact byte_conv f
  have q3 : I.conv .u8 t = w8 (BitVec.ofInt 8 t) := by rw [hI]; exact byte_conv t
  have q4 : I.conv .u8 (I.bin .shr .i64 i 8) = w8 (byteAt i 8) := by rw [hI]; exact byte_code i 8 (by omega)
  have q5 : I.conv .u8 i = w8 (BitVec.ofInt 8 i) := by rw [hI]; exact byte_conv i
  have q6 : I.conv .u8 l = w8 (BitVec.ofInt 8 l) := by rw [hI]; exact byte_conv l
  have q7 : I.conv .u8 (I.bin .add .i64 p 1) = w8 (BitVec.ofInt 8 (IntKind.i64.wrap (p + 1))) := by rw [hI]; exact byte_conv _
  have q8 : I.conv .u8 s = w8 (BitVec.ofInt 8 s) := by rw [hI]; exact byte_conv s
  have q9 : I.conv .u8 (I.ofNat (I.len D)) = w8 (BitVec.ofInt 8 (d.length : Int)) := by rw [hle, hI]; exact byte_conv _
  have hH : isB [[.int .u8 (.sym (I.conv .u8 k))], [.int .u8 (.sym (I.conv .u8 f))], [.int .u8 (.sym (I.conv .u8 t))], [.int .u8 (.sym (I.conv .u8 (I.bin .shr .i64 i 8)))], [.int .u8 (.sym (I.conv .u8 i))], [.int .u8 (.sym (I.conv .u8 l))], [.int .u8 (.sym (I.conv .u8 (I.bin .add .i64 p 1)))], [.int .u8 (.sym (I.conv .u8 s))], [.int .u8 (.sym fb)], [.int .u8 (.sym (I.conv .u8 (I.ofNat (I.len D))))]] (headB ⟨k, f, t, i, l, p, s, b, d⟩) := by
   rw [q1, q2, q3, q4, q5, q6, q7, q8, q9, hfb]
   rfl
  obtain ⟨HL, hHL⟩ : ∃ HL, HL = headB ⟨k, f, t, i, l, p, s, b, d⟩ := ⟨_, rfl⟩
  have hHl : HL.length = 10 := by rw [hHL]; rfl
  have hPK : packB ⟨k, f, t, i, l, p, s, b, d⟩ = HL ++ d.flatMap wordB := by rw [hHL]; rfl
  rw [← hHL] at hH
  clear q1 q2 q3 q4 q5 q6 q7 q8 q9 hHL hfb
  cbv
  refine .loop_next (fun n ts m => ∃ (j : Nat) (z c : Int) (B : List (List G)) (cl : C) (blk : Blk), n = d.length - j ∧ isN z j ∧ isN c d.length ∧ j ≤ d.length ∧ isB B (HL ++ (d.take j).flatMap wordB) ∧
    ((cl = .row 0 1 (some (.lit 10)) ∧ blk = .lit 1 [[.g (.int .u8 (.sym (I.conv .u8 k)))], [.g (.int .u8 (.sym (I.conv .u8 f)))], [.g (.int .u8 (.sym (I.conv .u8 t)))], [.g (.int .u8 (.sym (I.conv .u8 (I.bin .shr .i64 i 8))))], [.g (.int .u8 (.sym (I.conv .u8 i)))], [.g (.int .u8 (.sym (I.conv .u8 l)))], [.g (.int .u8 (.sym (I.conv .u8 (I.bin .add .i64 p 1))))], [.g (.int .u8 (.sym (I.conv .u8 s)))], [.g (.int .u8 (.sym fb))], [.g (.int .u8 (.sym (I.conv .u8 (I.ofNat (I.len D)))))]] ∧ B = [[.int .u8 (.sym (I.conv .u8 k))], [.int .u8 (.sym (I.conv .u8 f))], [.int .u8 (.sym (I.conv .u8 t))], [.int .u8 (.sym (I.conv .u8 (I.bin .shr .i64 i 8)))], [.int .u8 (.sym (I.conv .u8 i))], [.int .u8 (.sym (I.conv .u8 l))], [.int .u8 (.sym (I.conv .u8 (I.bin .add .i64 p 1)))], [.int .u8 (.sym (I.conv .u8 s))], [.int .u8 (.sym fb)], [.int .u8 (.sym (I.conv .u8 (I.ofNat (I.len D))))]]) ∨ (cl = .row 0 1 none ∧ blk = .sym 1 B)) ∧
    ts = fr 61 [(5, .one (.c cl)), (48, .one (.c (.bor 1 D))), (49, i64 c), (50, i64 z)] ∧ m = [blk])
   d.length _ _ [1] [] [5, 48, 49, 50] (by decide) rfl rfl rfl ⟨0, 0, I.ofNat (I.len D), _, _, _, rfl, rfl, by rw [hle, hI]; rfl, Nat.zero_le _, by rw [List.take_zero, List.flatMap_nil, List.append_nil]; exact hH, .inl ⟨rfl, rfl, rfl⟩, rfl, rfl⟩ ?_
  rintro next n hnext ts m ⟨j, z, c, B, cl, blk, hn, hz, hc, hj, hB, hcl, rfl, rfl⟩
  have hz1 : isN (I.bin .add .i64 z 1) (j + 1) := by unfold isN at hz ⊢; rw [hI]; simp only [ints, rBin]; rw [wrap_in] <;> omega
  have hjl : j < d.length → j < I.len D := fun h => by rw [hle]; exact h
  have hget : j < d.length → ∃ x, d[j]? = some x ∧ D[j]? = some [.int .i64 (.sym x)] := fun h => ⟨_, List.getElem?_eq_getElem h, by rw [hD.get, List.getElem?_eq_getElem h]; rfl⟩
  have hBl : B.length ≤ 50 := by
   rw [hB.len, List.length_append, hHl, words_len, List.length_take]
   omega
  have hap : ∀ (x : Int) (w : List (List G)), d[j]? = some x → isB w (wordB x) → isB (I.app B w) (HL ++ (d.take (j + 1)).flatMap wordB) := fun x w hx hw => by
   rw [hI, List.take_add_one, hx, List.flatMap_append]
   have := hB.app hw
   rw [List.append_assoc] at this
   show isB (B ++ w) _
   simpa using this
  have hapl : ∀ (x : Int) (w : List (List G)), isB w (wordB x) → I.len (I.app B w) ≤ 58 := fun x w hw => by
   have h8 : w.length = 8 := hw.len
   rw [hI]
   show (B ++ w).length ≤ _
   rw [List.length_append]
   omega
  have hseal : j = d.length → isB B (packB ⟨k, f, t, i, l, p, s, b, d⟩) := fun h => by
   rw [h, List.take_length] at hB
   rw [hPK]
   exact hB
  have hpl : (packB ⟨k, f, t, i, l, p, s, b, d⟩).length ≤ 140737488351250 := by
   rw [packB_len]
   show 10 + 8 * d.length ≤ _
   omega
  rcases hcl with ⟨rfl, rfl, rfl⟩ | ⟨rfl, rfl⟩
  ·cbv
   refine .br (fun g1 => ?_) (fun g1 => ?_)
   ·have hj1 : j < d.length := by
     have : z < c := by simpa [hI, ints, rCmp] using g1
     unfold isN at hz hc
     omega
    obtain ⟨x, hx, hr⟩ := hget hj1
    cbv
    refine .idx j hz (hjl hj1) (.nth _ hr ?_)
    cbv
    refine .go [] [] [] (word hp (.sym x)) rfl rfl rfl rfl rfl rfl ?_
    rintro r m1 ⟨w, hw, rfl, rfl⟩
    have h1 := hap x w hx hw
    have h2 := hapl x w hw
    cbv
    refine .most (Nat.le_trans (Nat.mul_le_mul_right 1 h2) (by decide)) (Nat.le_trans h2 (by decide)) ?_
    cbv
    exact hnext _ _ (d.length - (j + 1)) [2] [] [5, 48, 49, 50] _ _ (by omega) (by decide) rfl rfl rfl ⟨j + 1, _, c, _, _, _, rfl, hz1, hc, hj1, h1, .inr ⟨rfl, rfl⟩, rfl, rfl⟩
   ·have hj1 : j = d.length := by
     have : ¬ z < c := by simpa [hI, ints, rCmp] using g1
     unfold isN at hz hc
     omega
    cbv
    refine .go [] [] [.bor 1] (seal_ hp _ _ (hseal hj1) hpl) rfl rfl rfl rfl rfl rfl ?_
    rintro r m1 ⟨l', hl', rfl, rfl⟩
    cbv
    exact hP _ _ [1] [] _ _ (by decide) rfl rfl rfl rfl rfl (.inr ⟨hck, l', hl', rfl, rfl⟩)
  ·cbv
   refine .br (fun g1 => ?_) (fun g1 => ?_)
   ·have hj1 : j < d.length := by
     have : z < c := by simpa [hI, ints, rCmp] using g1
     unfold isN at hz hc
     omega
    obtain ⟨x, hx, hr⟩ := hget hj1
    cbv
    refine .idx j hz (hjl hj1) (.nth _ hr ?_)
    cbv
    refine .go [] [] [] (word hp (.sym x)) rfl rfl rfl rfl rfl rfl ?_
    rintro r m1 ⟨w, hw, rfl, rfl⟩
    have h1 := hap x w hx hw
    have h2 := hapl x w hw
    cbv
    refine .most (show I.len (I.app B w) * 1 ≤ 140737488355328 from by omega) (show I.len (I.app B w) ≤ 140737488355328 from by omega) ?_
    cbv
    exact hnext _ _ (d.length - (j + 1)) [2] [] [5, 48, 49, 50] _ _ (by omega) (by decide) rfl rfl rfl ⟨j + 1, _, c, _, _, _, rfl, hz1, hc, hj1, h1, .inr ⟨rfl, rfl⟩, rfl, rfl⟩
   ·have hj1 : j = d.length := by
     have : ¬ z < c := by simpa [hI, ints, rCmp] using g1
     unfold isN at hz hc
     omega
    cbv
    refine .go [] [] [.bor 1] (seal_ hp _ _ (hseal hj1) hpl) rfl rfl rfl rfl rfl rfl ?_
    rintro r m1 ⟨l', hl', rfl, rfl⟩
    cbv
    exact hP _ _ [1] [] _ _ (by decide) rfl rfl rfl rfl rfl (.inr ⟨hck, l', hl', rfl, rfl⟩)
end
end Go.Proofs.Ytofdnnjkfpomcaa.E
