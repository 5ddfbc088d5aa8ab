import Derived.Test.YtcaokpglbolkcaaGreatRows
import Derived.Test.YtcaokpglbolkcaaGreatNfD
set_option maxRecDepth 100000
namespace Go.Proofs.YtcaokpglbolkcaaGreat
open Go Go.Nf
def an13:An:=(.seq (.reg []) (.seq (.reg []) (.seq (.seq (.reg []) (.blk (.loop [(9,.int .i64)] (.seq (.reg [(0,0,true)]) (.seq (.cond .nil .nil) (.seq (.blk (.seq (.reg []) (.regD [(6,1,false)] [0,1,2,3,4,5,6,7] [5,6,7]))) (.reg []))))))) (.seq (.seq (.reg []) (.blk (.loop [(5,.int .i64)] (.seq (.seq (.reg [(2,0,true)]) (.cond .nil .nil)) (.cut [] (.blk (.seq (.seq (.reg [(1,0,true)]) (.cond (.seq (.reg []) .nil) .nil)) (.seq (.reg []) (.seq (.reg [(1,2,false)]) (.seq (.reg [(2,0,true),(6,0,true)]) (.cond (.regD [(8,1,false)] [0,1,2,3,4,5,6,7,8,9] [7,8,9]) .nil)))))) (.reg [])))))) (.seq (.reg []) .nil)))))
theorem nf13 (c0:Nat) (c1:Nat) (c2:Nat) (w:World) (R:Ending->World->Prop) (h:
(∃ x1,w.cell? ⟨c0,0,none⟩=some (.int .i64 x1)/\
 There w ⟨c0,0,none⟩ 1/\
 ∀ w2,w2=setCells w ⟨c0,0,none⟩ [.int .i64 (IntKind.wrap .i64 (x1+1))] 0->
 ∃ k4:(Nat->
 Int->
 World->
 Prop),(∃ n5,k4 n5 0 w2)/\
 ∀ n6:Nat,(Nat->
 Value)->
 ∀ w8:World,∀ x9:Int,k4 n6 x9 w8->
(decide (x9<3)=true->
 ∀ w12,w12=w8.drew->
 ∃ o14,∃ n15,∃ n16,w12.cell? ⟨c1,0,none⟩=some (.slice o14 n15 n16)/\
((0:Int)<=x9/\
 x9<3)/\
 ∃ o17,w12.cell? (Addr.add ⟨c2,0,none⟩ ((x9).toNat*1))=some (.pointer o17)/\
 ∃ x18,w12.cell? ⟨c0,0,none⟩=some (.int .i64 x18)/\
 Calls Tryz.prog 8 #[.pointer o17,.int .i64 x18] w12 (fun e19=>fun w20=>∃ o21,∃ n22,∃ n23,e19=.returned (.slice o21 n22 n23)/\
 Kept w12 w20 ⟨c1,0,none⟩ 1/\
 RunOk Tryz.prog (Hold (Builtin.append_ #[35,35] 35 #[.slice o14 n15 n16,.slice o21 n22 n23])) w20 (fun v24=>fun w25=>∃ o26,∃ n27,∃ n28,v24=.slice o26 n27 n28/\
 There w25 ⟨c1,0,none⟩ 1/\
 ∀ w29,w29=setCells w25 ⟨c1,0,none⟩ [.slice o26 n27 n28] 0->
 ∃ n31,n31<n6/\
 k4 n31 (IntKind.wrap .i64 (x9+1)) w29)))/\
(decide (x9<3)=false->
 ∃ k33:(Nat->
 Int->
 World->
 Prop),(∃ n34,k33 n34 0 w8)/\
 ∀ n35:Nat,(Nat->
 Value)->
 ∀ w37:World,∀ x38:Int,k33 n35 x38 w37->
 ∃ o40,∃ n41,∃ n42,w37.cell? ⟨c1,0,none⟩=some (.slice o40 n41 n42)/\
(decide (((n41:Nat):Int)>0)=true->
 ∀ k44:(World->
 Prop),(∀ w46:World,((Nat->
 Value)->
 ∃ n49,n49<n35/\
 k33 n49 (IntKind.wrap .i64 (x38+1)) w46)->
 k44 w46)->
(decide (x38>5000)=true->
 R (.returned (.bool false)) w37)/\
(decide (x38>5000)=false->
 ∃ o52,∃ n53,∃ n54,w37.cell? ⟨c1,0,none⟩=some (.slice o52 n53 n54)/\
 ∃ a55:Addr,o52=some a55/\
((0:Int)<=0/\
 0<((n53:Nat):Int))/\
 ∃ x56,w37.cell? a55=some (.int .i64 x56)/\
 ∃ x57,w37.cell? (Addr.add a55 1)=some (.int .i64 x57)/\
 ∃ x58,w37.cell? (Addr.add a55 2)=some (.int .i64 x58)/\
 ∃ x59,w37.cell? (Addr.add a55 3)=some (.int .i64 x59)/\
 ∃ x60,w37.cell? (Addr.add a55 4)=some (.int .i64 x60)/\
 ∃ x61,w37.cell? (Addr.add a55 5)=some (.int .i64 x61)/\
 ∃ x62,w37.cell? (Addr.add a55 6)=some (.int .i64 x62)/\
 ∃ b63,w37.cell? (Addr.add a55 7)=some (.bool b63)/\
 ∃ o64,∃ n65,∃ n66,w37.cell? (Addr.add a55 8)=some (.slice o64 n65 n66)/\
 ∀ w67,w67=w37.alloc (.cells #[.int .i64 0,.int .i64 0,.int .i64 0,.int .i64 0,.int .i64 0,.int .i64 0,.int .i64 0,.bool false,.slice none 0 0] 45 (0,0))->
 There w67 ⟨hs w37,0,none⟩ 9/\
 ∀ w69,w69=setCells w67 ⟨hs w37,0,none⟩ [.int .i64 x56,.int .i64 x57,.int .i64 x58,.int .i64 x59,.int .i64 x60,.int .i64 x61,.int .i64 x62,.bool b63,.slice o64 n65 n66] 0->
 ∃ o71,∃ n72,∃ n73,w69.cell? ⟨c1,0,none⟩=some (.slice o71 n72 n73)/\
((0:Int)<=1/\
 1<=((n72:Nat):Int))/\
 There w69 ⟨c1,0,none⟩ 1/\
 ∀ w74,w74=setCells w69 ⟨c1,0,none⟩ [.slice (if (n73=(1:Int).toNat) then o71 else (Option.map (fun (x:Addr)=>Addr.add x 9) o71)) (n72 - 1) (n73 - 1)] 0->
 ∃ x76,w74.cell? ⟨hs w37,2,none⟩=some (.int .i64 x76)/\
(decide (x76>=0)=true->
 ∃ x78,w74.cell? ⟨hs w37,2,none⟩=some (.int .i64 x78)/\
(decide (x78<3)=true->
 ∀ w80,w80=w74.drew->
 ∃ o82,∃ n83,∃ n84,w80.cell? ⟨c1,0,none⟩=some (.slice o82 n83 n84)/\
 ∃ x85,w80.cell? ⟨hs w37,2,none⟩=some (.int .i64 x85)/\
((0:Int)<=x85/\
 x85<3)/\
 ∃ o86,w80.cell? (Addr.add ⟨c2,0,none⟩ ((x85).toNat*1))=some (.pointer o86)/\
 ∃ x87,w80.cell? ⟨hs w37,0,none⟩=some (.int .i64 x87)/\
 ∃ x88,w80.cell? ⟨hs w37,1,none⟩=some (.int .i64 x88)/\
 ∃ x89,w80.cell? ⟨hs w37,2,none⟩=some (.int .i64 x89)/\
 ∃ x90,w80.cell? ⟨hs w37,3,none⟩=some (.int .i64 x90)/\
 ∃ x91,w80.cell? ⟨hs w37,4,none⟩=some (.int .i64 x91)/\
 ∃ x92,w80.cell? ⟨hs w37,5,none⟩=some (.int .i64 x92)/\
 ∃ x93,w80.cell? ⟨hs w37,6,none⟩=some (.int .i64 x93)/\
 ∃ b94,w80.cell? ⟨hs w37,7,none⟩=some (.bool b94)/\
 ∃ o95,∃ n96,∃ n97,w80.cell? ⟨hs w37,8,none⟩=some (.slice o95 n96 n97)/\
 ∃ x98,w80.cell? ⟨c0,0,none⟩=some (.int .i64 x98)/\
 Calls Tryz.prog 12 #[.pointer o86,.agg #[.int .i64 x87,.int .i64 x88,.int .i64 x89,.int .i64 x90,.int .i64 x91,.int .i64 x92,.int .i64 x93,.bool b94,.slice o95 n96 n97],.int .i64 x98] w80 (fun e99=>fun w100=>∃ o101,∃ n102,∃ n103,e99=.returned (.slice o101 n102 n103)/\
 Kept w80 w100 ⟨c1,0,none⟩ 1/\
 RunOk Tryz.prog (Hold (Builtin.append_ #[35,35] 35 #[.slice o82 n83 n84,.slice o101 n102 n103])) w100 (fun v104=>fun w105=>∃ o106,∃ n107,∃ n108,v104=.slice o106 n107 n108/\
 There w105 ⟨c1,0,none⟩ 1/\
 ∀ w109,w109=setCells w105 ⟨c1,0,none⟩ [.slice o106 n107 n108] 0->
 k44 w109)))/\
(decide (x78<3)=false->
 k44 w74))/\
(decide (x76>=0)=false->
 k44 w74)))/\
(decide (((n41:Nat):Int)>0)=false->
 R (.returned (.bool true)) w37)))):
  Calls Tryz.prog 13 #[(.pointer (some ⟨c0,0,none⟩)),(.pointer (some ⟨c1,0,none⟩)),(.pointer (some ⟨c2,0,none⟩))] w R:=
 calls_of_vc an13 Tryz.func13 rfl (by kernel_rfl) (by kernel_rfl) (Eq.mp (by kernel_rfl) h)
def an3:An:=(.seq (.reg []) (.seq (.seq (.reg [(0,0,true)]) (.cond (.seq (.reg []) .nil) .nil)) (.seq (.seq (.reg [(2,0,true)]) (.cond (.seq (.reg []) .nil) .nil)) (.seq (.reg []) (.seq (.reg []) (.seq (.reg []) (.seq (.reg []) (.seq (.seq (.reg []) (.blk (.loop [(33,.int .i64)] (.seq (.reg [(0,0,true)]) (.seq (.cond .nil .nil) (.seq (.blk (.seq (.reg []) (.seq (.reg []) (.seq (.regD [] [0,1,2,3,4,5,6,7,8,9,10,11,12,13,14] [9,14]) (.seq (.reg [(3,3,true)]) (.cond (.seq (.reg []) .nil) .nil)))))) (.reg []))))))) (.seq (.reg []) (.seq (.seq (.reg []) (.blk (.loop [(60,.int .i64)] (.seq (.reg [(0,0,true)]) (.seq (.cond .nil .nil) (.cut [] (.blk (.seq (.reg []) (.cut [] (.seq (.reg []) (.blk (.seq (.reg [(0,0,true)]) (.cond (.seq (.reg []) (.seq (.reg []) (.blk (.loop [(121,.int .i64)] (.seq (.reg [(0,0,true)]) (.seq (.cond .nil .nil) (.seq (.blk (.seq (.reg []) (.regD [(6,1,false)] [0,1,2,3,4,5,6,7] [5,6,7]))) (.reg [])))))))) (.seq (.reg [(0,0,true)]) (.cond (.seq (.reg []) (.seq (.regD [] [0,1,2,3,4,5,6] [6]) (.seq (.reg []) (.seq (.regD [] [0,1,2,3,4,5,6,7,8,9,10,11,12,13,14,15] [10,15]) (.seq (.reg [(3,3,true)]) (.cond (.seq (.reg []) .nil) .nil)))))) (.seq (.reg [(0,0,true)]) (.cond (.seq (.reg []) (.reg [(2,1,false)])) (.seq (.seq (.reg [(2,0,true)]) (.cond .nil .nil)) (.seq (.reg [(5,2,false)]) (.seq (.reg []) (.cut [] (.seq (.reg [(3,0,true)]) (.cond (.regD [(3,2,false),(7,2,false),(8,1,false)] [0,1,2,3,4,5,6,7,8,9] [8,9]) .nil)) (.seq (.reg [(3,0,true),(7,0,true),(12,0,true)]) (.cond (.regD [(8,1,false)] [0,1,2,3,4,5,6,7,8,9] [7,8,9]) .nil)))))))))))))) (.seq (.reg [(2,0,true)]) (.cond (.reg [(1,2,false)]) .nil))))) (.reg []))))))) (.seq (.reg []) (.seq (.seq (.reg []) (.blk (.loop [(194,.int .i64)] (.seq (.reg [(0,0,true)]) (.seq (.cond .nil .nil) (.seq (.blk (.seq (.reg [(1,0,true)]) (.cond (.seq (.reg []) .nil) .nil))) (.reg []))))))) (.seq (.reg []) (.seq (.seq (.reg [(1,0,true),(4,0,true),(11,0,true)]) (.cond (.seq (.reg []) .nil) .nil)) (.seq (.reg [(4,1,false)]) (.seq (.seq (.reg [(1,0,true)]) (.cond (.seq (.reg []) .nil) .nil)) (.seq (.reg [(2,1,false)]) (.seq (.seq (.reg []) (.blk (.loop [(231,.int .i64)] (.seq (.reg [(0,0,true)]) (.seq (.cond .nil .nil) (.seq (.blk (.seq (.reg [(1,0,true)]) (.cond (.seq (.reg []) .nil) .nil))) (.reg []))))))) (.seq (.seq (.reg []) (.blk (.loop [(237,.int .i64)] (.seq (.reg [(0,0,true)]) (.seq (.cond .nil .nil) (.seq (.blk (.seq (.reg []) (.seq (.reg [(7,0,true)]) (.seq (.reg [(5,0,true),(12,0,true),(21,1,false),(22,3,true)]) (.cond (.seq (.reg []) .nil) .nil))))) (.reg []))))))) (.seq (.reg []) .nil))))))))))))))))))))
theorem nf3 (l:Option Addr) (l_n:Nat) (l_c:Nat) (w:World) (R:Ending->World->Prop) (h:
(Calls Tryz.prog 5 #[] w (fun e1=>fun w2=>∃ b3,e1=.returned (.bool b3)/\
(b3=true->
(decide (((l_n:Nat):Int)>100)=true->
 R (.returned (.bool true)) w2)/\
(decide (((l_n:Nat):Int)>100)=false->
 ∀ w7,w7=w2.alloc (.cells #[.int .i64 0,.int .i64 1,.int .i64 2] 3 (0,0))->
 ∀ w9,w9=w7.alloc (.cells #[.slice none 0 0,.slice none 0 0] 26 (0,0))->
 There w9 ⟨hs w7,0,none⟩ 2/\
 ∀ w11,w11=setCells w9 ⟨hs w7,0,none⟩ [.slice (some ⟨hs w2,0,none⟩) 3 3,.slice none 0 0] 0->
 ∀ w13,w13=w11.alloc (.cells #[.pointer none,.pointer none,.pointer none] 28 (0,0))->
 ∀ w15,w15=w13.alloc (.cells #[.pointer none,.pointer none,.pointer none] 30 (0,0))->
 ∀ w17,w17=w15.alloc (.cells #[.int .i64 0] 2 (0,0))->
 There w17 ⟨hs w15,0,none⟩ 1/\
 ∀ w19,w19=setCells w17 ⟨hs w15,0,none⟩ [.int .i64 0] 0->
 ∃ k21:(Nat->
 Int->
 World->
 Prop),(∃ n22,k21 n22 0 w19)/\
 ∀ n23:Nat,(Nat->
 Value)->
 ∀ w25:World,∀ x26:Int,k21 n23 x26 w25->
(decide (x26<3)=true->
 Calls Tryz.prog 6 #[] w25 (fun e29=>fun w30=>∃ o31,e29=.returned (.pointer o31)/\
((0:Int)<=x26/\
 x26<3)/\
 There w30 (Addr.add ⟨hs w13,0,none⟩ ((x26).toNat*1)) 1/\
 ∀ w32,w32=setCells w30 (Addr.add ⟨hs w13,0,none⟩ ((x26).toNat*1)) [.pointer o31] 0->
 ∀ w34,w34=w32.drew->
 ∃ o36,∃ n37,∃ n38,w34.cell? ⟨hs w7,0,none⟩=some (.slice o36 n37 n38)/\
 ∃ o39,∃ n40,∃ n41,w34.cell? ⟨hs w7,1,none⟩=some (.slice o39 n40 n41)/\
((0:Int)<=x26/\
 x26<3)/\
 ∃ o42,w34.cell? (Addr.add ⟨hs w13,0,none⟩ ((x26).toNat*1))=some (.pointer o42)/\
 Calls Tryz.prog 7 #[.int .i64 x26,.agg #[.slice o36 n37 n38,.slice o39 n40 n41],.pointer o42,.int .i64 (IntKind.wrap .i64 (8+(IntKind.wrap .i64 (2*x26)))),.int .i64 2,.int .i64 0] w34 (fun e43=>fun w44=>∃ o45,∃ x46,e43=.returned (.tuple #[.pointer o45,.int .i64 x46])/\
((0:Int)<=x26/\
 x26<3)/\
 There w44 (Addr.add ⟨hs w11,0,none⟩ ((x26).toNat*1)) 1/\
 ∀ w47,w47=setCells w44 (Addr.add ⟨hs w11,0,none⟩ ((x26).toNat*1)) [.pointer o45] 0->
((0:Int)<=x26/\
 x26<3)/\
 ∃ o49,w47.cell? (Addr.add ⟨hs w11,0,none⟩ ((x26).toNat*1))=some (.pointer o49)/\
(Option.isNone o49=true->
 R (.returned (.bool false)) w47)/\
(Option.isNone o49=false->
 ∃ n52,n52<n23/\
 k21 n52 (IntKind.wrap .i64 (x26+1)) w47))))/\
(decide (x26<3)=false->
 ∀ w54,w54=w25.alloc (.cells #[.slice none 0 0] 35 (0,0))->
 ∃ k56:(Nat->
 Int->
 World->
 Prop),(∃ n57,k56 n57 0 w54)/\
 ∀ n58:Nat,(Nat->
 Value)->
 ∀ w60:World,∀ x61:Int,k56 n58 x61 w60->
(decide (x61<((l_n:Nat):Int))=true->
 ∀ k64:(World->
 Prop),(∀ w66:World,((Nat->
 Value)->
 ∃ n69,n69<n58/\
 k56 n69 (IntKind.wrap .i64 (x61+1)) w66)->
 k64 w66)->
 ∃ a70:Addr,l=some a70/\
((0:Int)<=x61/\
 x61<((l_n:Nat):Int))/\
 ∃ x71,w60.cell? (Addr.add a70 ((x61).toNat*3))=some (.int .u8 x71)/\
 ∃ x72,w60.cell? (Addr.add (Addr.add a70 ((x61).toNat*3)) 1)=some (.int .u8 x72)/\
 ∃ x73,w60.cell? (Addr.add (Addr.add a70 ((x61).toNat*3)) 2)=some (.int .u8 x73)/\
 ∀ w74,w74=w60.alloc (.cells #[.int .u8 0,.int .u8 0,.int .u8 0] 37 (0,0))->
 There w74 ⟨hs w60,0,none⟩ 3/\
 ∀ w76,w76=setCells w74 ⟨hs w60,0,none⟩ [.int .u8 x71,.int .u8 x72,.int .u8 x73] 0->
 ∀ k78:(World->
 Prop),(∀ w80:World,((Nat->
 Value)->
 ∃ o83,∃ n84,∃ n85,w80.cell? ⟨hs w25,0,none⟩=some (.slice o83 n84 n85)/\
(decide (((n84:Nat):Int)>200)=true->
 ∃ o87,∃ n88,∃ n89,w80.cell? ⟨hs w25,0,none⟩=some (.slice o87 n88 n89)/\
((0:Int)<=100/\
 100<=((n88:Nat):Int))/\
 There w80 ⟨hs w25,0,none⟩ 1/\
 ∀ w90,w90=setCells w80 ⟨hs w25,0,none⟩ [.slice (if (n89=(100:Int).toNat) then o87 else (Option.map (fun (x:Addr)=>Addr.add x 900) o87)) (n88 - 100) (n89 - 100)] 0->
 k64 w90)/\
(decide (((n84:Nat):Int)>200)=false->
 k64 w80))->
 k78 w80)->
 ∃ x93,w76.cell? ⟨hs w60,0,none⟩=some (.int .u8 x93)/\
(decide (Int.tmod x93 6=0)=true->
 ∃ x95,w76.cell? ⟨hs w15,0,none⟩=some (.int .i64 x95)/\
 There w76 ⟨hs w15,0,none⟩ 1/\
 ∀ w96,w96=setCells w76 ⟨hs w15,0,none⟩ [.int .i64 (IntKind.wrap .i64 (x95+1))] 0->
 ∃ k98:(Nat->
 Int->
 World->
 Prop),(∃ n99,k98 n99 0 w96)/\
 ∀ n100:Nat,(Nat->
 Value)->
 ∀ w102:World,∀ x103:Int,k98 n100 x103 w102->
(decide (x103<3)=true->
 ∀ w106,w106=w102.drew->
 ∃ o108,∃ n109,∃ n110,w106.cell? ⟨hs w25,0,none⟩=some (.slice o108 n109 n110)/\
((0:Int)<=x103/\
 x103<3)/\
 ∃ o111,w106.cell? (Addr.add ⟨hs w11,0,none⟩ ((x103).toNat*1))=some (.pointer o111)/\
 ∃ x112,w106.cell? ⟨hs w15,0,none⟩=some (.int .i64 x112)/\
 Calls Tryz.prog 8 #[.pointer o111,.int .i64 x112] w106 (fun e113=>fun w114=>∃ o115,∃ n116,∃ n117,e113=.returned (.slice o115 n116 n117)/\
 Kept w106 w114 ⟨hs w25,0,none⟩ 1/\
 RunOk Tryz.prog (Hold (Builtin.append_ #[35,35] 35 #[.slice o108 n109 n110,.slice o115 n116 n117])) w114 (fun v118=>fun w119=>∃ o120,∃ n121,∃ n122,v118=.slice o120 n121 n122/\
 There w119 ⟨hs w25,0,none⟩ 1/\
 ∀ w123,w123=setCells w119 ⟨hs w25,0,none⟩ [.slice o120 n121 n122] 0->
 ∃ n125,n125<n100/\
 k98 n125 (IntKind.wrap .i64 (x103+1)) w123)))/\
(decide (x103<3)=false->
 k78 w102))/\
(decide (Int.tmod x93 6=0)=false->
(decide (Int.tmod x93 6=4)=true->
 ∃ x129,w76.cell? ⟨hs w60,1,none⟩=some (.int .u8 x129)/\
 ∀ w130,w130=w76.drew->
((0:Int)<=Int.tmod (IntKind.wrap .i64 x129) 3/\
 Int.tmod (IntKind.wrap .i64 x129) 3<3)/\
 ∃ o132,w130.cell? (Addr.add ⟨hs w13,0,none⟩ ((Int.tmod (IntKind.wrap .i64 x129) 3).toNat*1))=some (.pointer o132)/\
 ∃ x133,w130.cell? ⟨hs w60,2,none⟩=some (.int .u8 x133)/\
 Calls Tryz.prog 9 #[.pointer o132,.int .i64 (IntKind.wrap .i64 x133),.int .u8 1] w130 (fun e134=>fun w135=>e134=.returned (.tuple #[])/\
((0:Int)<=Int.tmod (IntKind.wrap .i64 x129) 3/\
 Int.tmod (IntKind.wrap .i64 x129) 3<3)/\
 ∃ o136,w135.cell? (Addr.add ⟨hs w13,0,none⟩ ((Int.tmod (IntKind.wrap .i64 x129) 3).toNat*1))=some (.pointer o136)/\
 Calls Tryz.prog 10 #[.pointer o136] w135 (fun e137=>fun w138=>e137=.returned (.tuple #[])/\
 ∀ w139,w139=w138.drew->
 ∃ o141,∃ n142,∃ n143,w139.cell? ⟨hs w7,0,none⟩=some (.slice o141 n142 n143)/\
 ∃ o144,∃ n145,∃ n146,w139.cell? ⟨hs w7,1,none⟩=some (.slice o144 n145 n146)/\
((0:Int)<=Int.tmod (IntKind.wrap .i64 x129) 3/\
 Int.tmod (IntKind.wrap .i64 x129) 3<3)/\
 ∃ o147,w139.cell? (Addr.add ⟨hs w13,0,none⟩ ((Int.tmod (IntKind.wrap .i64 x129) 3).toNat*1))=some (.pointer o147)/\
 ∃ x148,w139.cell? ⟨hs w15,0,none⟩=some (.int .i64 x148)/\
 Calls Tryz.prog 7 #[.int .i64 (Int.tmod (IntKind.wrap .i64 x129) 3),.agg #[.slice o141 n142 n143,.slice o144 n145 n146],.pointer o147,.int .i64 (IntKind.wrap .i64 (8+(IntKind.wrap .i64 (2*(Int.tmod (IntKind.wrap .i64 x129) 3))))),.int .i64 2,.int .i64 x148] w139 (fun e149=>fun w150=>∃ o151,∃ x152,e149=.returned (.tuple #[.pointer o151,.int .i64 x152])/\
((0:Int)<=Int.tmod (IntKind.wrap .i64 x129) 3/\
 Int.tmod (IntKind.wrap .i64 x129) 3<3)/\
 There w150 (Addr.add ⟨hs w11,0,none⟩ ((Int.tmod (IntKind.wrap .i64 x129) 3).toNat*1)) 1/\
 ∀ w153,w153=setCells w150 (Addr.add ⟨hs w11,0,none⟩ ((Int.tmod (IntKind.wrap .i64 x129) 3).toNat*1)) [.pointer o151] 0->
((0:Int)<=Int.tmod (IntKind.wrap .i64 x129) 3/\
 Int.tmod (IntKind.wrap .i64 x129) 3<3)/\
 ∃ o155,w153.cell? (Addr.add ⟨hs w11,0,none⟩ ((Int.tmod (IntKind.wrap .i64 x129) 3).toNat*1))=some (.pointer o155)/\
(Option.isNone o155=true->
 R (.returned (.bool false)) w153)/\
(Option.isNone o155=false->
 k78 w153)))))/\
(decide (Int.tmod x93 6=4)=false->
(decide (Int.tmod x93 6=5)=true->
 ∃ x160,w76.cell? ⟨hs w60,1,none⟩=some (.int .u8 x160)/\
((0:Int)<=Int.tmod (IntKind.wrap .i64 x160) 3/\
 Int.tmod (IntKind.wrap .i64 x160) 3<3)/\
 ∃ o161,w76.cell? (Addr.add ⟨hs w11,0,none⟩ ((Int.tmod (IntKind.wrap .i64 x160) 3).toNat*1))=some (.pointer o161)/\
 ∀ w162,w162=w76.alloc (.cells #[.int .u8 (IntKind.wrap .u8 x61)] 5 (0,0))->
 Calls Tryz.prog 11 #[.pointer o161,.slice (some ⟨hs w76,0,none⟩) 1 1] w162 (fun e164=>fun w165=>∃ x166,∃ o167,∃ n168,∃ n169,∃ x170,e164=.returned (.tuple #[.int .i64 x166,.slice o167 n168 n169,.int .i64 x170])/\
 ∃ o171,∃ n172,∃ n173,w165.cell? ⟨hs w25,0,none⟩=some (.slice o171 n172 n173)/\
 RunOk Tryz.prog (Hold (Builtin.append_ #[35,35] 35 #[.slice o171 n172 n173,.slice o167 n168 n169])) w165 (fun v174=>fun w175=>∃ o176,∃ n177,∃ n178,v174=.slice o176 n177 n178/\
 There w175 ⟨hs w25,0,none⟩ 1/\
 ∀ w179,w179=setCells w175 ⟨hs w25,0,none⟩ [.slice o176 n177 n178] 0->
 k78 w179)))/\
(decide (Int.tmod x93 6=5)=false->
 ∃ o182,∃ n183,∃ n184,w76.cell? ⟨hs w25,0,none⟩=some (.slice o182 n183 n184)/\
(decide (((n183:Nat):Int)=0)=true->
 k64 w76)/\
(decide (((n183:Nat):Int)=0)=false->
 ∃ x187,w76.cell? ⟨hs w60,1,none⟩=some (.int .u8 x187)/\
 ∃ o188,∃ n189,∃ n190,w76.cell? ⟨hs w25,0,none⟩=some (.slice o188 n189 n190)/\
((n189:Nat):Int)≠0/\
 ∃ o191,∃ n192,∃ n193,w76.cell? ⟨hs w25,0,none⟩=some (.slice o191 n192 n193)/\
 ∃ a194:Addr,o191=some a194/\
((0:Int)<=Int.tmod (IntKind.wrap .i64 x187) ((n189:Nat):Int)/\
 Int.tmod (IntKind.wrap .i64 x187) ((n189:Nat):Int)<((n192:Nat):Int))/\
 ∃ x195,w76.cell? (Addr.add a194 ((Int.tmod (IntKind.wrap .i64 x187) ((n189:Nat):Int)).toNat*9))=some (.int .i64 x195)/\
 ∃ x196,w76.cell? (Addr.add (Addr.add a194 ((Int.tmod (IntKind.wrap .i64 x187) ((n189:Nat):Int)).toNat*9)) 1)=some (.int .i64 x196)/\
 ∃ x197,w76.cell? (Addr.add (Addr.add a194 ((Int.tmod (IntKind.wrap .i64 x187) ((n189:Nat):Int)).toNat*9)) 2)=some (.int .i64 x197)/\
 ∃ x198,w76.cell? (Addr.add (Addr.add a194 ((Int.tmod (IntKind.wrap .i64 x187) ((n189:Nat):Int)).toNat*9)) 3)=some (.int .i64 x198)/\
 ∃ x199,w76.cell? (Addr.add (Addr.add a194 ((Int.tmod (IntKind.wrap .i64 x187) ((n189:Nat):Int)).toNat*9)) 4)=some (.int .i64 x199)/\
 ∃ x200,w76.cell? (Addr.add (Addr.add a194 ((Int.tmod (IntKind.wrap .i64 x187) ((n189:Nat):Int)).toNat*9)) 5)=some (.int .i64 x200)/\
 ∃ x201,w76.cell? (Addr.add (Addr.add a194 ((Int.tmod (IntKind.wrap .i64 x187) ((n189:Nat):Int)).toNat*9)) 6)=some (.int .i64 x201)/\
 ∃ b202,w76.cell? (Addr.add (Addr.add a194 ((Int.tmod (IntKind.wrap .i64 x187) ((n189:Nat):Int)).toNat*9)) 7)=some (.bool b202)/\
 ∃ o203,∃ n204,∃ n205,w76.cell? (Addr.add (Addr.add a194 ((Int.tmod (IntKind.wrap .i64 x187) ((n189:Nat):Int)).toNat*9)) 8)=some (.slice o203 n204 n205)/\
 ∀ w206,w206=w76.alloc (.cells #[.int .i64 0,.int .i64 0,.int .i64 0,.int .i64 0,.int .i64 0,.int .i64 0,.int .i64 0,.bool false,.slice none 0 0] 45 (0,0))->
 There w206 ⟨hs w76,0,none⟩ 9/\
 ∀ w208,w208=setCells w206 ⟨hs w76,0,none⟩ [.int .i64 x195,.int .i64 x196,.int .i64 x197,.int .i64 x198,.int .i64 x199,.int .i64 x200,.int .i64 x201,.bool b202,.slice o203 n204 n205] 0->
 ∀ k210:(World->
 Prop),(∀ w212:World,((Nat->
 Value)->
 ∃ x215,w212.cell? ⟨hs w60,0,none⟩=some (.int .u8 x215)/\
((! (decide (Int.tmod x215 6=2)))=true->
 ∃ x217,w212.cell? ⟨hs w76,2,none⟩=some (.int .i64 x217)/\
(decide (x217>=0)=true->
 ∃ x219,w212.cell? ⟨hs w76,2,none⟩=some (.int .i64 x219)/\
(decide (x219<3)=true->
 ∀ w221,w221=w212.drew->
 ∃ o223,∃ n224,∃ n225,w221.cell? ⟨hs w25,0,none⟩=some (.slice o223 n224 n225)/\
 ∃ x226,w221.cell? ⟨hs w76,2,none⟩=some (.int .i64 x226)/\
((0:Int)<=x226/\
 x226<3)/\
 ∃ o227,w221.cell? (Addr.add ⟨hs w11,0,none⟩ ((x226).toNat*1))=some (.pointer o227)/\
 ∃ x228,w221.cell? ⟨hs w76,0,none⟩=some (.int .i64 x228)/\
 ∃ x229,w221.cell? ⟨hs w76,1,none⟩=some (.int .i64 x229)/\
 ∃ x230,w221.cell? ⟨hs w76,2,none⟩=some (.int .i64 x230)/\
 ∃ x231,w221.cell? ⟨hs w76,3,none⟩=some (.int .i64 x231)/\
 ∃ x232,w221.cell? ⟨hs w76,4,none⟩=some (.int .i64 x232)/\
 ∃ x233,w221.cell? ⟨hs w76,5,none⟩=some (.int .i64 x233)/\
 ∃ x234,w221.cell? ⟨hs w76,6,none⟩=some (.int .i64 x234)/\
 ∃ b235,w221.cell? ⟨hs w76,7,none⟩=some (.bool b235)/\
 ∃ o236,∃ n237,∃ n238,w221.cell? ⟨hs w76,8,none⟩=some (.slice o236 n237 n238)/\
 ∃ x239,w221.cell? ⟨hs w15,0,none⟩=some (.int .i64 x239)/\
 Calls Tryz.prog 12 #[.pointer o227,.agg #[.int .i64 x228,.int .i64 x229,.int .i64 x230,.int .i64 x231,.int .i64 x232,.int .i64 x233,.int .i64 x234,.bool b235,.slice o236 n237 n238],.int .i64 x239] w221 (fun e240=>fun w241=>∃ o242,∃ n243,∃ n244,e240=.returned (.slice o242 n243 n244)/\
 Kept w221 w241 ⟨hs w25,0,none⟩ 1/\
 RunOk Tryz.prog (Hold (Builtin.append_ #[35,35] 35 #[.slice o223 n224 n225,.slice o242 n243 n244])) w241 (fun v245=>fun w246=>∃ o247,∃ n248,∃ n249,v245=.slice o247 n248 n249/\
 There w246 ⟨hs w25,0,none⟩ 1/\
 ∀ w250,w250=setCells w246 ⟨hs w25,0,none⟩ [.slice o247 n248 n249] 0->
 k78 w250)))/\
(decide (x219<3)=false->
 k78 w212))/\
(decide (x217>=0)=false->
 k78 w212))/\
((! (decide (Int.tmod x215 6=2)))=false->
 k78 w212))->
 k210 w212)->
 ∃ x255,w208.cell? ⟨hs w60,0,none⟩=some (.int .u8 x255)/\
((! (decide (Int.tmod x255 6=3)))=true->
 ∀ w257,w257=w208.drew->
 ∃ o259,∃ n260,∃ n261,w257.cell? ⟨hs w25,0,none⟩=some (.slice o259 n260 n261)/\
((0:Int)<=Int.tmod (IntKind.wrap .i64 x187) ((n189:Nat):Int)/\
 Int.tmod (IntKind.wrap .i64 x187) ((n189:Nat):Int)<=((n261:Nat):Int))/\
((0:Int)<=Int.tmod (IntKind.wrap .i64 x187) ((n189:Nat):Int)/\
 Int.tmod (IntKind.wrap .i64 x187) ((n189:Nat):Int)<=(((Int.tmod (IntKind.wrap .i64 x187) ((n189:Nat):Int)).toNat:Nat):Int))/\
 ∃ o262,∃ n263,∃ n264,w257.cell? ⟨hs w25,0,none⟩=some (.slice o262 n263 n264)/\
((0:Int)<=IntKind.wrap .i64 ((Int.tmod (IntKind.wrap .i64 x187) ((n189:Nat):Int))+1)/\
 IntKind.wrap .i64 ((Int.tmod (IntKind.wrap .i64 x187) ((n189:Nat):Int))+1)<=((n263:Nat):Int))/\
 RunOk Tryz.prog (Hold (Builtin.append_ #[35,35] 35 #[.slice (if ((Int.tmod (IntKind.wrap .i64 x187) ((n189:Nat):Int)).toNat=0) then o259 else (Option.map (fun (x:Addr)=>x) o259)) ((Int.tmod (IntKind.wrap .i64 x187) ((n189:Nat):Int)).toNat - 0) ((Int.tmod (IntKind.wrap .i64 x187) ((n189:Nat):Int)).toNat - 0),.slice (if (n264=(IntKind.wrap .i64 ((Int.tmod (IntKind.wrap .i64 x187) ((n189:Nat):Int))+1)).toNat) then o262 else (Option.map (fun (x:Addr)=>Addr.add x ((IntKind.wrap .i64 ((Int.tmod (IntKind.wrap .i64 x187) ((n189:Nat):Int))+1)).toNat*9)) o262)) (n263 - (IntKind.wrap .i64 ((Int.tmod (IntKind.wrap .i64 x187) ((n189:Nat):Int))+1)).toNat) (n264 - (IntKind.wrap .i64 ((Int.tmod (IntKind.wrap .i64 x187) ((n189:Nat):Int))+1)).toNat)])) w257 (fun v265=>fun w266=>∃ o267,∃ n268,∃ n269,v265=.slice o267 n268 n269/\
 There w266 ⟨hs w25,0,none⟩ 1/\
 ∀ w270,w270=setCells w266 ⟨hs w25,0,none⟩ [.slice o267 n268 n269] 0->
 k210 w270))/\
((! (decide (Int.tmod x255 6=3)))=false->
 k210 w208))))))/\
(decide (x61<((l_n:Nat):Int))=false->
 ∃ k274:(Nat->
 Int->
 World->
 Prop),(∃ n275,k274 n275 0 w60)/\
 ∀ n276:Nat,(Nat->
 Value)->
 ∀ w278:World,∀ x279:Int,k274 n276 x279 w278->
(decide (x279<60)=true->
 Calls Tryz.prog 13 #[.pointer (some ⟨hs w15,0,none⟩),.pointer (some ⟨hs w25,0,none⟩),.pointer (some ⟨hs w11,0,none⟩)] w278 (fun e282=>fun w283=>∃ b284,e282=.returned (.bool b284)/\
(b284=true->
 ∃ n286,n286<n276/\
 k274 n286 (IntKind.wrap .i64 (x279+1)) w283)/\
(b284=false->
 R (.returned (.bool false)) w283)))/\
(decide (x279<60)=false->
((0:Int)<=0/\
(0:Int)<3)/\
 ∃ o289,w278.cell? ⟨hs w11,0,none⟩=some (.pointer o289)/\
 Calls Tryz.prog 14 #[.pointer o289] w278 (fun e290=>fun w291=>∃ x292,e290=.returned (.int .i64 x292)/\
(decide (x292<0)=true->
 R (.returned (.bool false)) w291)/\
(decide (x292<0)=false->
(decide (x292>2)=true->
 R (.returned (.bool false)) w291)/\
(decide (x292>2)=false->
((0:Int)<=x292/\
 x292<3)/\
 ∃ o297,w291.cell? (Addr.add ⟨hs w11,0,none⟩ ((x292).toNat*1))=some (.pointer o297)/\
 Calls Tryz.prog 15 #[.pointer o297] w291 (fun e298=>fun w299=>∃ x300,e298=.returned (.int .i64 x300)/\
((! (decide (x300=3)))=true->
 R (.returned (.bool false)) w299)/\
((! (decide (x300=3)))=false->
((0:Int)<=x292/\
 x292<3)/\
 ∃ o303,w299.cell? (Addr.add ⟨hs w11,0,none⟩ ((x292).toNat*1))=some (.pointer o303)/\
 ∀ w304,w304=w299.alloc (.cells #[.int .u8 108,.int .u8 97,.int .u8 115,.int .u8 116] 5 (0,0))->
 RunOk Tryz.prog (Hold (convert 42 42 (.slice (some ⟨hs w299,0,none⟩) 4 4))) w304 (fun v306=>fun w307=>∃ o308,∃ n309,∃ n310,v306=.slice o308 n309 n310/\
 Calls Tryz.prog 11 #[.pointer o303,.slice o308 n309 n310] w307 (fun e311=>fun w312=>∃ x313,∃ o314,∃ n315,∃ n316,∃ x317,e311=.returned (.tuple #[.int .i64 x313,.slice o314 n315 n316,.int .i64 x317])/\
((! (decide (x317=0)))=true->
 R (.returned (.bool false)) w312)/\
((! (decide (x317=0)))=false->
 ∃ o320,∃ n321,∃ n322,w312.cell? ⟨hs w25,0,none⟩=some (.slice o320 n321 n322)/\
 RunOk Tryz.prog (Hold (Builtin.append_ #[35,35] 35 #[.slice o320 n321 n322,.slice o314 n315 n316])) w312 (fun v323=>fun w324=>∃ o325,∃ n326,∃ n327,v323=.slice o325 n326 n327/\
 There w324 ⟨hs w25,0,none⟩ 1/\
 ∀ w328,w328=setCells w324 ⟨hs w25,0,none⟩ [.slice o325 n326 n327] 0->
 ∃ k330:(Nat->
 Int->
 World->
 Prop),(∃ n331,k330 n331 0 w328)/\
 ∀ n332:Nat,(Nat->
 Value)->
 ∀ w334:World,∀ x335:Int,k330 n332 x335 w334->
(decide (x335<6)=true->
 Calls Tryz.prog 13 #[.pointer (some ⟨hs w15,0,none⟩),.pointer (some ⟨hs w25,0,none⟩),.pointer (some ⟨hs w11,0,none⟩)] w334 (fun e338=>fun w339=>∃ b340,e338=.returned (.bool b340)/\
(b340=true->
 ∃ n342,n342<n332/\
 k330 n342 (IntKind.wrap .i64 (x335+1)) w339)/\
(b340=false->
 R (.returned (.bool false)) w339)))/\
(decide (x335<6)=false->
 ∃ k345:(Nat->
 Int->
 World->
 Prop),(∃ n346,k345 n346 0 w334)/\
 ∀ n347:Nat,(Nat->
 Value)->
 ∀ w349:World,∀ x350:Int,k345 n347 x350 w349->
(decide (x350<3)=true->
((0:Int)<=x350/\
 x350<3)/\
 ∃ o353,w349.cell? (Addr.add ⟨hs w11,0,none⟩ ((x350).toNat*1))=some (.pointer o353)/\
 Calls Tryz.prog 16 #[.pointer o353,.int .i64 x313] w349 (fun e354=>fun w355=>∃ x356,∃ x357,∃ o358,∃ n359,∃ n360,∃ b361,e354=.returned (.tuple #[.agg #[.int .i64 x356,.int .i64 x357,.slice o358 n359 n360],.bool b361])/\
(b361=true->
 ∀ w363,w363=w355.alloc (.cells #[.int .i64 0,.int .i64 0,.slice none 0 0] 49 (0,0))->
 There w363 ⟨hs w355,0,none⟩ 3/\
 ∀ w365,w365=setCells w363 ⟨hs w355,0,none⟩ [.int .i64 x356,.int .i64 x357,.slice o358 n359 n360] 0->
((0:Int)<=x350/\
 x350<3)/\
 ∃ o367,w365.cell? (Addr.add ⟨hs w11,0,none⟩ ((x350).toNat*1))=some (.pointer o367)/\
 Calls Tryz.prog 14 #[.pointer o367] w365 (fun e368=>fun w369=>∃ x370,e368=.returned (.int .i64 x370)/\
((! (decide (x370=x292)))=true->
 R (.returned (.bool false)) w369)/\
((! (decide (x370=x292)))=false->
((0:Int)<=x350/\
 x350<3)/\
 ∃ o373,w369.cell? (Addr.add ⟨hs w11,0,none⟩ ((x350).toNat*1))=some (.pointer o373)/\
 Calls Tryz.prog 17 #[.pointer o373] w369 (fun e374=>fun w375=>∃ x376,e374=.returned (.int .i64 x376)/\
(decide (x376<x313)=true->
 R (.returned (.bool false)) w375)/\
(decide (x376<x313)=false->
 ∃ o379,∃ n380,∃ n381,w375.cell? ⟨hs w355,2,none⟩=some (.slice o379 n380 n381)/\
 RunOk Tryz.prog (Hold (convert 42 9 (.slice o379 n380 n381))) w375 (fun v382=>fun w383=>∃ s384:ByteArray,v382=.string s384/\
((! (strEq s384 (ByteArray.mk #[(108:UInt8),(97:UInt8),(115:UInt8),(116:UInt8)])))=true->
 R (.returned (.bool false)) w383)/\
((! (strEq s384 (ByteArray.mk #[(108:UInt8),(97:UInt8),(115:UInt8),(116:UInt8)])))=false->
 ∃ n387,n387<n347/\
 k345 n387 (IntKind.wrap .i64 (x350+1)) w383)))))))/\
(b361=false->
 ∀ w389,w389=w355.alloc (.cells #[.int .i64 0,.int .i64 0,.slice none 0 0] 49 (0,0))->
 There w389 ⟨hs w355,0,none⟩ 3/\
 ∀ w391,w391=setCells w389 ⟨hs w355,0,none⟩ [.int .i64 x356,.int .i64 x357,.slice o358 n359 n360] 0->
((0:Int)<=x350/\
 x350<3)/\
 ∃ o393,w391.cell? (Addr.add ⟨hs w11,0,none⟩ ((x350).toNat*1))=some (.pointer o393)/\
 Calls Tryz.prog 14 #[.pointer o393] w391 (fun e394=>fun w395=>∃ x396,e394=.returned (.int .i64 x396)/\
((! (decide (x396=x292)))=true->
 R (.returned (.bool false)) w395)/\
((! (decide (x396=x292)))=false->
((0:Int)<=x350/\
 x350<3)/\
 ∃ o399,w395.cell? (Addr.add ⟨hs w11,0,none⟩ ((x350).toNat*1))=some (.pointer o399)/\
 Calls Tryz.prog 17 #[.pointer o399] w395 (fun e400=>fun w401=>∃ x402,e400=.returned (.int .i64 x402)/\
(decide (x402<x313)=true->
 R (.returned (.bool false)) w401)/\
(decide (x402<x313)=false->
 R (.returned (.bool false)) w401)))))))/\
(decide (x350<3)=false->
 R (.returned (.bool true)) w349))))))))))))))))/\
(b3=false->
 R (.returned (.bool false)) w2)))):
  Calls Tryz.prog 3 #[(.slice l l_n l_c)] w R:=
 calls_of_vc an3 Tryz.func3 rfl (by kernel_rfl) (by kernel_rfl) (Eq.mp (by kernel_rfl) h)
end Go.Proofs.YtcaokpglbolkcaaGreat
