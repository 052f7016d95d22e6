/- The compiled functions in a form that the kernel works out fast. Printed by a program of mine (wip/am/Stage2M.lean). -/
import Derived.Test.YtjilfolpkkhfmaaDoorTbf
namespace Go.Proofs.YtjilfolpkkhfmaaDoor.Tab
open Go Go.AM Go.Proofs
set_option maxRecDepth 100000
/- palisade/palisadelaw24.BackendFull -/
noncomputable def g3 : SFun := fun call lf args s0 =>
 @List.rec Value (fun _ => RR) none (fun x1 t2 _ =>
 @List.rec Value (fun _ => RR) none (fun x3 _ _ =>
 bind2 (call 5 [] s0) fun v5 s6 =>
 bindR (eqvF .ptr false true v5 (Value.pointer none)) fun v7 =>
 branch v7 (
 some ((Value.bool false), s6)) (
 bindR (nilF v5) fun v8 =>
 bindR (addOffF 3 v8) fun v9 =>
 bindR (ixAF 2 1 v9 (Value.int .i64 (Int.ofNat 0))) fun v10 =>
 bindR (loadF s6 none v10) fun v11 =>
 bindR (andF x1 (Value.int .i64 (Int.ofNat 7))) fun v12 =>
 bindR (addF (Value.int .i64 (Int.ofNat 6)) v12) fun v13 =>
 bind2 (call 6 [v11, (Value.int .u64 (Int.ofNat 0)), (Value.int .u64 (Int.ofNat 1)), v13] s6) fun v14 s15 =>
 bindR (andF x3 (Value.int .i64 (Int.ofNat 7))) fun v16 =>
 bindR (addF (Value.int .i64 (Int.ofNat 1)) v16) fun v17 =>
 joinK (fun (x18 : Value) (x19 : Value) (x20 : Value) (x21 : Value) (x22 : Value) (s23 : Sto) =>
 bindR (nilF x19) fun v24 =>
 bindR (addOffF 7 v24) fun v25 =>
 bindR (ixAF 2 1 v25 (Value.int .i64 (Int.ofNat 0))) fun v26 =>
 bindR (loadF s23 none v26) fun v27 =>
 bindR (some (Value.iface 24 x20)) fun v28 =>
 bind2 (call 8 [v27, v28] s23) fun v29 s30 =>
 bindR (extractF 0 v29) fun v31 =>
 bindR (extractF 1 v29) fun v32 =>
 bindR (neqF v31 (Value.int .i64 (Int.ofNat 0))) fun v33 =>
 bindR (guardF false v33 (some v32) (some undef)) fun v34 =>
 bindR (guardF false v33 (neqF v34 (Value.int .i64 (Int.ofNat 0))) (some undef)) fun v35 =>
 bindR (pickF (some (Value.bool true)) (some v35) v33) fun v36 =>
 bindR (guardF false v36 (some x19) (some undef)) fun v37 =>
 bindR (guardF false v36 (nilF v37) (some undef)) fun v38 =>
 bindR (guardF false v36 (addOffF 7 v38) (some undef)) fun v39 =>
 bindR (guardF false v36 (ixAF 2 1 v39 (Value.int .i64 (Int.ofNat 0))) (some undef)) fun v40 =>
 bindR (guardF false v36 (loadF s30 none v40) (some undef)) fun v41 =>
 bind2 (guardF false v36 (call 9 [v41] s30) (some (undef, s30))) fun v42 s43 =>
 bindR (guardF false v36 (neqF v42 (Value.int .i64 (Int.ofNat 8))) (some undef)) fun v44 =>
 bindR (pickF (some (Value.bool true)) (some v44) v36) fun v45 =>
 branch v45 (
 some ((Value.bool false), s43)) (
 joinK (fun (x46 : Value) (x47 : Value) (x48 : Value) (x49 : Value) (s50 : Sto) =>
 bindR (nilF x47) fun v51 =>
 bindR (addOffF 7 v51) fun v52 =>
 bindR (ixAF 2 1 v52 (Value.int .i64 (Int.ofNat 0))) fun v53 =>
 bindR (loadF s50 none v53) fun v54 =>
 bindR (some (Value.iface 24 x48)) fun v55 =>
 bind2 (call 8 [v54, v55] s50) fun v56 s57 =>
 bindR (extractF 0 v56) fun v58 =>
 bindR (extractF 1 v56) fun v59 =>
 bindR (neqF v58 (Value.int .i64 (Int.ofNat 0))) fun v60 =>
 bindR (guardF false v60 (some v59) (some undef)) fun v61 =>
 bindR (guardF false v60 (neqF v61 (Value.int .i64 (Int.ofNat 0))) (some undef)) fun v62 =>
 bindR (pickF (some (Value.bool true)) (some v62) v60) fun v63 =>
 bindR (guardF false v63 (some x47) (some undef)) fun v64 =>
 bindR (guardF false v63 (nilF v64) (some undef)) fun v65 =>
 bindR (guardF false v63 (addOffF 7 v65) (some undef)) fun v66 =>
 bindR (guardF false v63 (ixAF 2 1 v66 (Value.int .i64 (Int.ofNat 0))) (some undef)) fun v67 =>
 bindR (guardF false v63 (loadF s57 none v67) (some undef)) fun v68 =>
 bind2 (guardF false v63 (call 9 [v68] s57) (some (undef, s57))) fun v69 s70 =>
 bindR (guardF false v63 (neqF v69 (Value.int .i64 (Int.ofNat 8))) (some undef)) fun v71 =>
 bindR (pickF (some (Value.bool true)) (some v71) v63) fun v72 =>
 branch v72 (
 some ((Value.bool false), s70)) (
 joinK (fun (x73 : Value) (x74 : Value) (x75 : Value) (s76 : Sto) =>
 (fun (s77 : Sto) =>
 bindR (nilF x74) fun v78 =>
 bindR (addOffF 1 v78) fun v79 =>
 bindR (loadF s77 none v79) fun v80 =>
 bindR (nilF x75) fun v81 =>
 bindR (addOffF 1 v81) fun v82 =>
 bindR (loadF s77 none v82) fun v83 =>
 bindR (addF v83 x73) fun v84 =>
 bind2 (call 12 [v80, v84] s77) fun v85 s86 =>
 bindR (extractF 0 v85) fun _ =>
 bindR (extractF 1 v85) fun v88 =>
 bindR (extractF 2 v85) fun _ =>
 bindR (nilF x74) fun v90 =>
 bindR (addOffF 7 v90) fun v91 =>
 bindR (ixAF 2 1 v91 (Value.int .i64 (Int.ofNat 0))) fun v92 =>
 bindR (loadF s86 none v92) fun v93 =>
 bind2 (call 13 [v93] s86) fun _ s95 =>
 (fun (s96 : Sto) =>
 bindR (nilF x74) fun v97 =>
 bindR (addOffF 1 v97) fun v98 =>
 bindR (loadF s96 none v98) fun v99 =>
 bindR (nilF x75) fun v100 =>
 bindR (addOffF 1 v100) fun v101 =>
 bindR (loadF s96 none v101) fun v102 =>
 bindR (addF v102 x73) fun v103 =>
 bind2 (call 12 [v99, v103] s96) fun v104 s105 =>
 bindR (extractF 0 v104) fun _ =>
 bindR (extractF 1 v104) fun v107 =>
 bindR (extractF 2 v104) fun _ =>
 bindR (eqlF v88 (Value.int .i64 (Int.ofNat 9))) fun v109 =>
 bindR (guardF true v109 (some v107) (some undef)) fun v110 =>
 bindR (guardF true v109 (eqlF v110 (Value.int .i64 (Int.ofNat 1))) (some undef)) fun v111 =>
 bindR (pickF (some v111) (some (Value.bool false)) v109) fun v112 =>
 bindR (guardF true v112 (some x74) (some undef)) fun v113 =>
 bindR (guardF true v112 (nilF v113) (some undef)) fun v114 =>
 bindR (guardF true v112 (addOffF 7 v114) (some undef)) fun v115 =>
 bindR (guardF true v112 (ixAF 2 1 v115 (Value.int .i64 (Int.ofNat 0))) (some undef)) fun v116 =>
 bindR (guardF true v112 (loadF s105 none v116) (some undef)) fun v117 =>
 bind2 (guardF true v112 (call 9 [v117] s105) (some (undef, s105))) fun v118 s119 =>
 bindR (guardF true v112 (eqlF v118 (Value.int .i64 (Int.ofNat 0))) (some undef)) fun v120 =>
 bindR (pickF (some v120) (some (Value.bool false)) v112) fun v121 =>
 some (v121, s119)) ⟨Nat.add (Sto.next s95) 0, Sto.objs s95⟩) ⟨Nat.add (Sto.next s76) 0, Sto.objs s76⟩) fun (J122 : Value → Value → Value → Sto → RR) =>
 (@Nat.rec (fun _ => Value → Value → Value → Value → Value → Sto → RR) (fun _ _ _ _ _ _ => none) (fun _ J123 => fun (x124 : Value) (x125 : Value) (x126 : Value) (x127 : Value) (x128 : Value) (s129 : Sto) =>
 bindR (lssF x128 x127) fun v130 =>
 branch v130 (
 joinK (fun (x131 : Value) (x132 : Value) (x133 : Value) (x134 : Value) (x135 : Value) (s136 : Sto) =>
 bindR (addF x135 (Value.int .i64 (Int.ofNat 1))) fun v137 =>
 J123 x131 x132 x133 x134 v137 s136) fun (J138 : Value → Value → Value → Value → Value → Sto → RR) =>
 (fun (s139 : Sto) =>
 bindR (nilF x125) fun v140 =>
 bindR (addOffF 2 v140) fun v141 =>
 bindR (loadF s139 none v141) fun v142 =>
 bindR (nilF x125) fun v143 =>
 bindR (addOffF 0 v143) fun v144 =>
 bindR (loadF s139 none v144) fun v145 =>
 bind2 (call 10 [v142, v145, (Value.int .i64 (Int.ofNat 0))] s139) fun v146 s147 =>
 bindR (extractF 0 v146) fun v148 =>
 bindR (extractF 1 v146) fun v149 =>
 bind2 (some (AObj.cells 4 [(Value.int .i64 (Int.ofNat 0)), (Value.bool false), (Value.int .i64 (Int.ofNat 0)), (Value.int .i64 (Int.ofNat 0))] .leaf .fixed, fun b => Value.pointer (some ⟨b, 0, none⟩))) fun o150 f151 => @Option.rec AObj (fun _ => RR) ((fun (v152 : Value) (s153 : Sto) =>
 bind2 (storeF s153 4 v152 v148) fun _ s155 =>
 (fun (s156 : Sto) =>
 bindR (nilF x125) fun v157 =>
 bindR (addOffF 7 v157) fun v158 =>
 bindR (ixAF 2 1 v158 (Value.int .i64 (Int.ofNat 0))) fun v159 =>
 bindR (loadF s156 none v159) fun v160 =>
 bindR (some (Value.iface 24 x126)) fun v161 =>
 bindR (addOffF 0 v152) fun v162 =>
 bindR (loadF s156 none v162) fun v163 =>
 bind2 (call 11 [v160, v161, v163] s156) fun v164 s165 =>
 bindR (extractF 0 v164) fun v166 =>
 bindR (extractF 1 v164) fun v167 =>
 bindR (nilF x125) fun v168 =>
 bindR (addOffF 7 v168) fun v169 =>
 bindR (ixAF 2 1 v169 (Value.int .i64 (Int.ofNat 0))) fun v170 =>
 bindR (loadF s165 none v170) fun v171 =>
 bindR (some (Value.iface 24 x126)) fun v172 =>
 bind2 (call 8 [v171, v172] s165) fun v173 s174 =>
 bindR (extractF 0 v173) fun v175 =>
 bindR (extractF 1 v173) fun v176 =>
 bindR (neqF v149 (Value.int .i64 (Int.ofNat 0))) fun v177 =>
 bindR (guardF false v177 (some v166) (some undef)) fun v178 =>
 bindR (guardF false v177 (notF v178) (some undef)) fun v179 =>
 bindR (pickF (some (Value.bool true)) (some v179) v177) fun v180 =>
 bindR (guardF false v180 (some v167) (some undef)) fun v181 =>
 bindR (guardF false v180 (neqF v181 (Value.int .i64 (Int.ofNat 0))) (some undef)) fun v182 =>
 bindR (pickF (some (Value.bool true)) (some v182) v180) fun v183 =>
 bindR (guardF false v183 (some v175) (some undef)) fun v184 =>
 bindR (guardF false v183 (neqF v184 (Value.int .i64 (Int.ofNat 0))) (some undef)) fun v185 =>
 bindR (pickF (some (Value.bool true)) (some v185) v183) fun v186 =>
 bindR (guardF false v186 (some v176) (some undef)) fun v187 =>
 bindR (guardF false v186 (neqF v187 (Value.int .i64 (Int.ofNat 0))) (some undef)) fun v188 =>
 bindR (pickF (some (Value.bool true)) (some v188) v186) fun v189 =>
 bindR (guardF false v189 (some x125) (some undef)) fun v190 =>
 bindR (guardF false v189 (nilF v190) (some undef)) fun v191 =>
 bindR (guardF false v189 (addOffF 7 v191) (some undef)) fun v192 =>
 bindR (guardF false v189 (ixAF 2 1 v192 (Value.int .i64 (Int.ofNat 0))) (some undef)) fun v193 =>
 bindR (guardF false v189 (loadF s174 none v193) (some undef)) fun v194 =>
 bind2 (guardF false v189 (call 9 [v194] s174) (some (undef, s174))) fun v195 s196 =>
 bindR (guardF false v189 (neqF v195 (Value.int .i64 (Int.ofNat 8))) (some undef)) fun v197 =>
 bindR (pickF (some (Value.bool true)) (some v197) v189) fun v198 =>
 branch v198 (
 some ((Value.bool false), s196)) (
 J138 x124 x125 x126 x127 x128 s196)) ⟨Nat.add (Sto.next s155) 0, Sto.objs s155⟩) (f151 (Nat.add (Sto.next s129) 0)) ⟨Sto.next s147, setR (Sto.objs s147) (Nat.add (Sto.next s129) 0) o150⟩) (fun _ => none) (getR (Sto.objs s147) (Nat.add (Sto.next s129) 0))) ⟨Nat.add (Sto.next s129) 1, Sto.objs s129⟩) (
 J122 x124 x125 x126 s129)) lf) x46 x47 x48 x49 (Value.int .i64 (Int.ofNat 0)) s70)) fun (J199 : Value → Value → Value → Value → Sto → RR) =>
 (@Nat.rec (fun _ => Value → Value → Value → Value → Value → Value → Sto → RR) (fun _ _ _ _ _ _ _ => none) (fun _ J200 => fun (x201 : Value) (x202 : Value) (x203 : Value) (x204 : Value) (x205 : Value) (x206 : Value) (s207 : Sto) =>
 bindR (lssF x206 x205) fun v208 =>
 branch v208 (
 joinK (fun (x209 : Value) (x210 : Value) (x211 : Value) (x212 : Value) (x213 : Value) (x214 : Value) (s215 : Sto) =>
 bindR (addF x214 (Value.int .i64 (Int.ofNat 1))) fun v216 =>
 J200 x209 x210 x211 x212 x213 v216 s215) fun (J217 : Value → Value → Value → Value → Value → Value → Sto → RR) =>
 bindR (addF (Value.int .i64 (Int.ofNat 8)) x206) fun v218 =>
 bind2 (call 7 [x203, v218, x204] s207) fun _ s220 =>
 J217 x201 x202 x203 x204 x205 x206 s220) (
 J199 x201 x202 x203 x205 s207)) lf) x18 x19 x20 x21 x22 (Value.int .i64 (Int.ofNat 0)) s43)) fun (J221 : Value → Value → Value → Value → Value → Sto → RR) =>
 (@Nat.rec (fun _ => Value → Value → Value → Value → Value → Value → Sto → RR) (fun _ _ _ _ _ _ _ => none) (fun _ J222 => fun (x223 : Value) (x224 : Value) (x225 : Value) (x226 : Value) (x227 : Value) (x228 : Value) (s229 : Sto) =>
 bindR (lssF x228 (Value.int .i64 (Int.ofNat 8))) fun v230 =>
 branch v230 (
 joinK (fun (x231 : Value) (x232 : Value) (x233 : Value) (x234 : Value) (x235 : Value) (x236 : Value) (s237 : Sto) =>
 bindR (addF x236 (Value.int .i64 (Int.ofNat 1))) fun v238 =>
 J222 x231 x232 x233 x234 x235 v238 s237) fun (J239 : Value → Value → Value → Value → Value → Value → Sto → RR) =>
 bind2 (call 7 [x225, x228, x226] s229) fun _ s241 =>
 J239 x223 x224 x225 x226 x227 x228 s241) (
 J221 x223 x224 x225 x226 x227 s229)) lf) v13 v5 v11 v14 v17 (Value.int .i64 (Int.ofNat 0)) s15)) t2) args
theorem st3 (call : CallF) (lf : Nat) (args : List Value) (s : Sto) : g3 call lf args s = runK k3 call lf args s := by kernel_rfl
/- palisade/palisadelaw24.begin -/
noncomputable def g5 : SFun := fun call lf _ s0 =>
 bind2 (call 16 [(Value.int .i64 (Int.ofNat 40))] s0) fun v1 s2 =>
 bindR (extractF 0 v1) fun v3 =>
 bindR (extractF 1 v1) fun v4 =>
 bind2 (call 17 [(Value.int .i64 (Int.ofNat 40)), (Value.int .i64 (Int.ofNat 4))] s2) fun v5 s6 =>
 bindR (extractF 0 v5) fun v7 =>
 bindR (extractF 1 v5) fun v8 =>
 bind2 (call 18 [(Value.int .i64 (Int.ofNat 12))] s6) fun v9 s10 =>
 bindR (extractF 0 v9) fun v11 =>
 bindR (extractF 1 v9) fun v12 =>
 bindR (neqF v4 (Value.int .i64 (Int.ofNat 0))) fun v13 =>
 bindR (guardF false v13 (some v8) (some undef)) fun v14 =>
 bindR (guardF false v13 (neqF v14 (Value.int .i64 (Int.ofNat 0))) (some undef)) fun v15 =>
 bindR (pickF (some (Value.bool true)) (some v15) v13) fun v16 =>
 bindR (guardF false v16 (some v12) (some undef)) fun v17 =>
 bindR (guardF false v16 (neqF v17 (Value.int .i64 (Int.ofNat 0))) (some undef)) fun v18 =>
 bindR (pickF (some (Value.bool true)) (some v18) v16) fun v19 =>
 bindR (guardF false v19 (some v3) (some undef)) fun v20 =>
 bindR (guardF false v19 (eqvF .ptr false true v20 (Value.pointer none)) (some undef)) fun v21 =>
 bindR (pickF (some (Value.bool true)) (some v21) v19) fun v22 =>
 bindR (guardF false v22 (some v7) (some undef)) fun v23 =>
 bindR (guardF false v22 (eqvF .ptr false true v23 (Value.pointer none)) (some undef)) fun v24 =>
 bindR (pickF (some (Value.bool true)) (some v24) v22) fun v25 =>
 bindR (guardF false v25 (some v11) (some undef)) fun v26 =>
 bindR (guardF false v25 (eqvF .ptr false true v26 (Value.pointer none)) (some undef)) fun v27 =>
 bindR (pickF (some (Value.bool true)) (some v27) v25) fun v28 =>
 branch v28 (
 some ((Value.pointer none), s10)) (
 bindR ((fillA [(Value.pointer none), (Value.pointer none), (Value.pointer none), (Value.pointer none), (Value.pointer none), (Value.pointer none), (Value.pointer none), (Value.pointer none), (Value.pointer none)] [(0, 1, v3), (1, 1, v7), (2, 1, v11)]).bind fun cs => some (Value.agg cs.toArray)) fun v29 =>
 bind2 (some (boxV v29)) fun o30 f31 => (fun (v32 : Value) (s33 : Sto) =>
 joinK (fun (x34 : Value) (s35 : Sto) =>
 some (x34, s35)) fun (J36 : Value → Sto → RR) =>
 (@Nat.rec (fun _ => Value → Value → Value → Value → Value → Sto → RR) (fun _ _ _ _ _ _ => none) (fun _ J37 => fun (x38 : Value) (x39 : Value) (x40 : Value) (x41 : Value) (x42 : Value) (s43 : Sto) =>
 bindR (lssF x42 (Value.int .i64 (Int.ofNat 2))) fun v44 =>
 branch v44 (
 joinK (fun (x45 : Value) (x46 : Value) (x47 : Value) (x48 : Value) (x49 : Value) (s50 : Sto) =>
 bindR (addF x49 (Value.int .i64 (Int.ofNat 1))) fun v51 =>
 J37 x45 x46 x47 x48 v51 s50) fun (J52 : Value → Value → Value → Value → Value → Sto → RR) =>
 bindR (mulF (Value.int .i64 (Int.ofNat 16)) x42) fun v53 =>
 bindR (addF (Value.int .i64 (Int.ofNat 4)) v53) fun v54 =>
 bindR ((fillA [(Value.pointer none), (Value.int .i64 (Int.ofNat 0)), (Value.int .i64 (Int.ofNat 0))] [(0, 1, x38), (1, 1, v54), (2, 1, (Value.int .i64 (Int.ofNat 16)))]).bind fun cs => some (Value.agg cs.toArray)) fun v55 =>
 bind2 (some (boxV v55)) fun o56 f57 => (fun (v58 : Value) (s59 : Sto) =>
 bindR (nilF x41) fun v60 =>
 bindR (addOffF 3 v60) fun v61 =>
 bindR (ixAF 2 1 v61 x42) fun v62 =>
 bind2 (storeF s59 1 v62 v58) fun _ s64 =>
 joinK (fun (x65 : Value) (x66 : Value) (x67 : Value) (x68 : Value) (x69 : Value) (s70 : Sto) =>
 bind2 (call 20 [(Value.int .u64 (Int.ofNat 0)), (Value.int .i64 (Int.ofNat 8))] s70) fun v71 s72 =>
 bindR (extractF 0 v71) fun v73 =>
 bindR (extractF 1 v71) fun v74 =>
 bindR (mulF (Value.int .i64 (Int.ofNat 4)) x69) fun v75 =>
 bindR (addF (Value.int .i64 (Int.ofNat 1)) x69) fun v76 =>
 bind2 (call 21 [v73, x67, v75, (Value.int .i64 (Int.ofNat 4)), x66, v76] s72) fun v77 s78 =>
 bindR (extractF 0 v77) fun v79 =>
 bindR (extractF 1 v77) fun v80 =>
 bindR (neqF v74 (Value.int .i64 (Int.ofNat 0))) fun v81 =>
 bindR (guardF false v81 (some v80) (some undef)) fun v82 =>
 bindR (guardF false v81 (neqF v82 (Value.int .i64 (Int.ofNat 0))) (some undef)) fun v83 =>
 bindR (pickF (some (Value.bool true)) (some v83) v81) fun v84 =>
 bindR (guardF false v84 (some v79) (some undef)) fun v85 =>
 bindR (guardF false v84 (eqvF .ptr false true v85 (Value.pointer none)) (some undef)) fun v86 =>
 bindR (pickF (some (Value.bool true)) (some v86) v84) fun v87 =>
 branch v87 (
 some ((Value.pointer none), s78)) (
 (fun (s88 : Sto) =>
 bindR (nilF x68) fun v89 =>
 bindR (addOffF 5 v89) fun v90 =>
 bindR (ixAF 2 1 v90 x69) fun v91 =>
 bindR (nilF x68) fun v92 =>
 bindR (addOffF 7 v92) fun v93 =>
 bind2 (storeF s88 1 v91 v73) fun _ s95 =>
 bindR (ixAF 2 1 v93 x69) fun v96 =>
 bind2 (storeF s95 1 v96 v79) fun _ s98 =>
 J52 x65 x66 x67 x68 x69 s98) ⟨Nat.add (Sto.next s78) 0, Sto.objs s78⟩)) fun (J99 : Value → Value → Value → Value → Value → Sto → RR) =>
 (@Nat.rec (fun _ => Value → Value → Value → Value → Value → Value → Sto → RR) (fun _ _ _ _ _ _ _ => none) (fun _ J100 => fun (x101 : Value) (x102 : Value) (x103 : Value) (x104 : Value) (x105 : Value) (x106 : Value) (s107 : Sto) =>
 bindR (lssF x106 (Value.int .i64 (Int.ofNat 16))) fun v108 =>
 branch v108 (
 joinK (fun (x109 : Value) (x110 : Value) (x111 : Value) (x112 : Value) (x113 : Value) (x114 : Value) (s115 : Sto) =>
 bindR (addF x114 (Value.int .i64 (Int.ofNat 1))) fun v116 =>
 J100 x109 x110 x111 x112 x113 v116 s115) fun (J117 : Value → Value → Value → Value → Value → Value → Sto → RR) =>
 bindR (addF (Value.int .i64 (Int.ofNat 1)) x105) fun v118 =>
 bind2 (call 19 [x102, v118] s107) fun v119 s120 =>
 bindR (extractF 0 v119) fun v121 =>
 bindR (extractF 1 v119) fun v122 =>
 bindR (mulF (Value.int .i64 (Int.ofNat 16)) x105) fun v123 =>
 bindR (addF (Value.int .i64 (Int.ofNat 4)) v123) fun v124 =>
 bindR (addF v124 x106) fun v125 =>
 bindR (neqF v121 v125) fun v126 =>
 bindR (guardF false v126 (some v122) (some undef)) fun v127 =>
 bindR (guardF false v126 (neqF v127 (Value.int .i64 (Int.ofNat 0))) (some undef)) fun v128 =>
 bindR (pickF (some (Value.bool true)) (some v128) v126) fun v129 =>
 branch v129 (
 some ((Value.pointer none), s120)) (
 J117 x101 x102 x103 x104 x105 x106 s120)) (
 J99 x101 x102 x103 x104 x105 s107)) lf) x38 x39 x40 x41 x42 (Value.int .i64 (Int.ofNat 0)) s64) (f57 (Sto.next s43)) ⟨Nat.succ (Sto.next s43), setR (Sto.objs s43) (Sto.next s43) o56⟩) (
 J36 x41 s43)) lf) v3 v7 v11 v32 (Value.int .i64 (Int.ofNat 0)) s33) (f31 (Sto.next s10)) ⟨Nat.succ (Sto.next s10), setR (Sto.objs s10) (Sto.next s10) o30⟩)
theorem st5 (call : CallF) (lf : Nat) (args : List Value) (s : Sto) : g5 call lf args s = runK k5 call lf args s := by kernel_rfl
/- palisade/palisadelaw24.request -/
noncomputable def g6 : SFun := fun call _ args s0 =>
 @List.rec Value (fun _ => RR) none (fun x1 t2 _ =>
 @List.rec Value (fun _ => RR) none (fun x3 t4 _ =>
 @List.rec Value (fun _ => RR) none (fun x5 t6 _ =>
 @List.rec Value (fun _ => RR) none (fun x7 _ _ =>
 bind2 (call 22 [x1, (Value.int .u64 (Int.ofNat 1024)), (Value.int .i64 (Int.ofNat 8)), x3] s0) fun _ s10 =>
 bind2 (call 22 [x1, (Value.int .u64 (Int.ofNat 1032)), (Value.int .i64 (Int.ofNat 8)), x5] s10) fun _ s12 =>
 bind2 (call 22 [x1, (Value.int .u64 (Int.ofNat 1096)), (Value.int .i64 (Int.ofNat 8)), (Value.int .u64 (Int.ofNat 8608480567731124087))] s12) fun _ s14 =>
 bindR ((fillA [(Value.int .u64 (Int.ofNat 0)), (Value.int .i64 (Int.ofNat 0)), (Value.bool false)] [(0, 1, (Value.int .u64 (Int.ofNat 1024))), (1, 1, (Value.int .i64 (Int.ofNat 16)))]).bind fun cs => some (Value.agg cs.toArray)) fun v15 =>
 bindR (mulF (Value.int .i64 (Int.ofNat 256)) x7) fun v16 =>
 bindR (convF .u64 v16) fun v17 =>
 bindR (eqlF x3 (Value.int .u64 (Int.ofNat 0))) fun v18 =>
 bindR ((fillA [(Value.int .u64 (Int.ofNat 0)), (Value.int .i64 (Int.ofNat 0)), (Value.bool false)] [(0, 1, v17), (1, 1, (Value.int .i64 (Int.ofNat 256))), (2, 1, v18)]).bind fun cs => some (Value.agg cs.toArray)) fun v19 =>
 bindR ((fillA [(Value.int .u64 (Int.ofNat 0)), (Value.int .i64 (Int.ofNat 0)), (Value.bool false)] [(0, 1, (Value.int .u64 (Int.ofNat 1100))), (1, 1, (Value.int .i64 (Int.ofNat 1))), (2, 1, (Value.bool true))]).bind fun cs => some (Value.agg cs.toArray)) fun v20 =>
 bind2 (mkLitV 3 3 [(Value.int .u64 (Int.ofNat 0)), (Value.int .i64 (Int.ofNat 0)), (Value.bool false)] [(0, 3, v15), (3, 3, v19), (6, 3, v20)]) fun o21 f22 => (fun (v23 : Value) (s24 : Sto) =>
 some (v23, s24)) (f22 (Sto.next s14)) ⟨Nat.succ (Sto.next s14), setR (Sto.objs s14) (Sto.next s14) o21⟩) t6) t4) t2) args
theorem st6 (call : CallF) (lf : Nat) (args : List Value) (s : Sto) : g6 call lf args s = runK k6 call lf args s := by kernel_rfl
/- palisade/palisadelaw24.offer -/
noncomputable def g7 : SFun := fun call lf args s0 =>
 @List.rec Value (fun _ => RR) none (fun x1 t2 _ =>
 @List.rec Value (fun _ => RR) none (fun x3 t4 _ =>
 @List.rec Value (fun _ => RR) none (fun x5 _ _ =>
 joinK (fun (x7 : Value) (x8 : Value) (s9 : Sto) =>
 bindR (remF x8 (Value.int .i64 (Int.ofNat 8))) fun v10 =>
 bindR (convF .u64 v10) fun v11 =>
 bindR (mulF (Value.int .u64 (Int.ofNat 8)) v11) fun v12 =>
 bindR (addF (Value.int .u64 (Int.ofNat 264)) v12) fun v13 =>
 bind2 (call 22 [x7, v13, (Value.int .i64 (Int.ofNat 8)), (Value.int .u64 (Int.ofNat 0))] s9) fun _ s15 =>
 bindR (addF x8 (Value.int .i64 (Int.ofNat 1))) fun v16 =>
 bindR (convF .u64 v16) fun v17 =>
 bind2 (call 22 [x7, (Value.int .u64 (Int.ofNat 256)), (Value.int .i64 (Int.ofNat 8)), v17] s15) fun _ s19 =>
 some (Value.tuple (Array.mk []), s19)) fun (J20 : Value → Value → Sto → RR) =>
 (@Nat.rec (fun _ => Value → Value → Value → Value → Sto → RR) (fun _ _ _ _ _ => none) (fun _ J21 => fun (x22 : Value) (x23 : Value) (x24 : Value) (x25 : Value) (s26 : Sto) =>
 bindR (lenF false x24) fun v27 =>
 bindR (lssF x25 v27) fun v28 =>
 bindR (guardF true v28 (some x25) (some undef)) fun v29 =>
 bindR (guardF true v28 (lssF v29 (Value.int .i64 (Int.ofNat 8))) (some undef)) fun v30 =>
 bindR (pickF (some v30) (some (Value.bool false)) v28) fun v31 =>
 branch v31 (
 joinK (fun (x32 : Value) (x33 : Value) (x34 : Value) (x35 : Value) (s36 : Sto) =>
 bindR (addF x35 (Value.int .i64 (Int.ofNat 1))) fun v37 =>
 J21 x32 x33 x34 v37 s36) fun (J38 : Value → Value → Value → Value → Sto → RR) =>
 bindR (ixSF 3 x24 x25) fun v39 =>
 bindR (addOffF 2 v39) fun v40 =>
 bindR (loadF s26 none v40) fun v41 =>
 joinK (fun (x42 : Value) (x43 : Value) (x44 : Value) (x45 : Value) (x46 : Value) (s47 : Sto) =>
 bindR (addF x45 (Value.int .i64 (Int.ofNat 1))) fun v48 =>
 bindR (lenF false x44) fun v49 =>
 bindR (lssF v48 v49) fun v50 =>
 bindR (guardF true v50 (some x45) (some undef)) fun v51 =>
 bindR (guardF true v50 (lssF v51 (Value.int .i64 (Int.ofNat 7))) (some undef)) fun v52 =>
 bindR (pickF (some v52) (some (Value.bool false)) v50) fun v53 =>
 joinK (fun (x54 : Value) (x55 : Value) (x56 : Value) (x57 : Value) (x58 : Value) (s59 : Sto) =>
 bindR (convF .u64 x57) fun v60 =>
 bindR (mulF (Value.int .u64 (Int.ofNat 32)) v60) fun v61 =>
 bindR (ixSF 3 x56 x57) fun v62 =>
 bindR (addOffF 0 v62) fun v63 =>
 bindR (loadF s59 none v63) fun v64 =>
 bind2 (call 22 [x54, v61, (Value.int .i64 (Int.ofNat 8)), v64] s59) fun _ s66 =>
 bindR (addF v61 (Value.int .u64 (Int.ofNat 8))) fun v67 =>
 bindR (ixSF 3 x56 x57) fun v68 =>
 bindR (addOffF 1 v68) fun v69 =>
 bindR (loadF s66 none v69) fun v70 =>
 bindR (convF .u64 v70) fun v71 =>
 bind2 (call 22 [x54, v67, (Value.int .i64 (Int.ofNat 8)), v71] s66) fun _ s73 =>
 bindR (addF v61 (Value.int .u64 (Int.ofNat 16))) fun v74 =>
 bind2 (call 22 [x54, v74, (Value.int .i64 (Int.ofNat 8)), x58] s73) fun _ s76 =>
 bindR (addF v61 (Value.int .u64 (Int.ofNat 24))) fun v77 =>
 bindR (addF x57 (Value.int .i64 (Int.ofNat 1))) fun v78 =>
 bindR (convF .u64 v78) fun v79 =>
 bind2 (call 22 [x54, v77, (Value.int .i64 (Int.ofNat 8)), v79] s76) fun _ s81 =>
 J38 x54 x55 x56 x57 s81) fun (J82 : Value → Value → Value → Value → Value → Sto → RR) => branch v53 (
 bindR (addF x46 (Value.int .u64 (Int.ofNat 1))) fun v83 =>
 J82 x42 x43 x44 x45 v83 s47) (
 J82 x42 x43 x44 x45 x46 s47)) fun (J84 : Value → Value → Value → Value → Value → Sto → RR) => branch v41 (
 J84 x22 x23 x24 x25 (Value.int .u64 (Int.ofNat 2)) s26) (
 J84 x22 x23 x24 x25 (Value.int .u64 (Int.ofNat 0)) s26)) (
 J20 x22 x23 s26)) lf) x1 x3 x5 (Value.int .i64 (Int.ofNat 0)) s0) t4) t2) args
theorem st7 (call : CallF) (lf : Nat) (args : List Value) (s : Sto) : g7 call lf args s = runK k7 call lf args s := by kernel_rfl
/- (*palisade/backend.Block).Kick -/
noncomputable def g8 : SFun := fun call lf args s0 =>
 @List.rec Value (fun _ => RR) none (fun x1 t2 _ =>
 @List.rec Value (fun _ => RR) none (fun x3 _ _ =>
 bind2 (call 23 [x1, x3] s0) fun v5 s6 =>
 branch v5 (
 some (Value.tuple (Array.mk [(Value.int .i64 (Int.ofNat 0)), (Value.int .i64 (Int.ofNat 1))]), s6)) (
 joinK (fun (x7 : Value) (s8 : Sto) =>
 some (Value.tuple (Array.mk [x7, (Value.int .i64 (Int.ofNat 0))]), s8)) fun (J9 : Value → Sto → RR) =>
 (@Nat.rec (fun _ => Value → Value → Value → Sto → RR) (fun _ _ _ _ => none) (fun _ J10 => fun (x11 : Value) (x12 : Value) (x13 : Value) (s14 : Sto) =>
 bindR (nilF x11) fun v15 =>
 bindR (addOffF 7 v15) fun v16 =>
 bindR (loadF s14 none v16) fun v17 =>
 bindR ((mapEs s14 v17).bind fun es => some (goInt es.length)) fun v18 =>
 bindR (lssF v18 (Value.int .i64 (Int.ofNat 8))) fun v19 =>
 branch v19 (
 joinK (fun (x20 : Value) (x21 : Value) (x22 : Value) (s23 : Sto) =>
 J10 x20 x21 x22 s23) fun (J24 : Value → Value → Value → Sto → RR) =>
 bindR (nilF x11) fun v25 =>
 bindR (addOffF 0 v25) fun v26 =>
 bindR (loadF s14 none v26) fun v27 =>
 bind2 (call 24 [v27, x12] s14) fun v28 s29 =>
 bindR (extractF 0 v28) fun v30 =>
 bindR (extractF 1 v28) fun v31 =>
 bindR (extractF 2 v28) fun v32 =>
 bind2 (some (AObj.cells 2 [(Value.int .i64 (Int.ofNat 0)), (Value.slice none 0 0)] .leaf .fixed, fun b => Value.pointer (some ⟨b, 0, none⟩))) fun o33 f34 => (fun (v35 : Value) (s36 : Sto) =>
 bind2 (storeF s36 2 v35 v30) fun _ s38 =>
 bindR (notF v31) fun v39 =>
 bindR (guardF false v39 (some v32) (some undef)) fun v40 =>
 bindR (guardF false v39 (neqF v40 (Value.int .i64 (Int.ofNat 0))) (some undef)) fun v41 =>
 bindR (pickF (some (Value.bool true)) (some v41) v39) fun v42 =>
 branch v42 (
 some (Value.tuple (Array.mk [x13, v32]), s38)) (
 bindR (loadF s38 (some 2) v35) fun v43 =>
 bind2 (call 25 [x11, x12, v43] s38) fun v44 s45 =>
 bindR (extractF 0 v44) fun v46 =>
 bindR (extractF 1 v44) fun v47 =>
 bind2 (some (AObj.cells 4 [(Value.int .i64 (Int.ofNat 0)), (Value.bool false), (Value.int .i64 (Int.ofNat 0)), (Value.int .i64 (Int.ofNat 0))] .leaf .fixed, fun b => Value.pointer (some ⟨b, 0, none⟩))) fun o48 f49 => (fun (v50 : Value) (s51 : Sto) =>
 bind2 (storeF s51 4 v50 v46) fun _ s53 =>
 bindR (eqlF v47 (Value.int .u8 (Int.ofNat 0))) fun v54 =>
 joinK (fun (x55 : Value) (x56 : Value) (x57 : Value) (x58 : Value) (x59 : Value) (s60 : Sto) =>
 bindR (eqlF x59 (Value.int .u8 (Int.ofNat 0))) fun v61 =>
 branch v61 (
 J24 x55 x56 x57 s60) (
 (fun (s62 : Sto) =>
 bindR (nilF x55) fun v63 =>
 bindR (addOffF 0 v63) fun v64 =>
 bindR (loadF s62 none v64) fun v65 =>
 bindR (addOffF 0 x58) fun v66 =>
 bindR (loadF s62 none v66) fun v67 =>
 bindR (loadF s62 (some 2) x58) fun v68 =>
 bind2 (call 28 [x56, v68, x59] s62) fun v69 s70 =>
 bindR (loadF s70 none v66) fun w71 => @Bool.rec (fun _ => RR) none (
 bindR (loadF s70 none v64) fun w72 => @Bool.rec (fun _ => RR) none (
 bind2 (call 27 [v65, x56, v67, v69] s70) fun v73 s74 =>
 bindR (neqF v73 (Value.int .i64 (Int.ofNat 0))) fun v75 =>
 branch v75 (
 some (Value.tuple (Array.mk [x57, v73]), s74)) (
 bindR (addF x57 (Value.int .i64 (Int.ofNat 1))) fun v76 =>
 J24 x55 x56 v76 s74)) (vEqF w72 v65)) (vEqF w71 v67)) ⟨Nat.add (Sto.next s60) 0, Sto.objs s60⟩)) fun (J77 : Value → Value → Value → Value → Value → Sto → RR) => branch v54 (
 bindR (loadF s53 (some 2) v35) fun v78 =>
 bindR (loadF s53 (some 4) v50) fun v79 =>
 bind2 (call 26 [x11, v78, v79] s53) fun v80 s81 =>
 J77 x11 x12 x13 v35 v80 s81) (
 J77 x11 x12 x13 v35 v47 s53)) (f49 (Sto.next s45)) ⟨Nat.succ (Sto.next s45), setR (Sto.objs s45) (Sto.next s45) o48⟩)) (f34 (Sto.next s29)) ⟨Nat.succ (Sto.next s29), setR (Sto.objs s29) (Sto.next s29) o33⟩) (
 J9 x13 s14)) lf) x1 x3 (Value.int .i64 (Int.ofNat 0)) s6)) t2) args
theorem st8 (call : CallF) (lf : Nat) (args : List Value) (s : Sto) : g8 call lf args s = runK k8 call lf args s := by kernel_rfl
/- (*palisade/backend.Block).Waits -/
noncomputable def g9 : SFun := fun _ _ args s0 =>
 @List.rec Value (fun _ => RR) none (fun x1 _ _ =>
 bindR (eqvF .ptr false true x1 (Value.pointer none)) fun v3 =>
 branch v3 (
 some ((Value.int .i64 (Int.ofNat 0)), s0)) (
 bindR (nilF x1) fun v4 =>
 bindR (addOffF 7 v4) fun v5 =>
 bindR (loadF s0 none v5) fun v6 =>
 bindR ((mapEs s0 v6).bind fun es => some (goInt es.length)) fun v7 =>
 some (v7, s0))) args
theorem st9 (call : CallF) (lf : Nat) (args : List Value) (s : Sto) : g9 call lf args s = runK k9 call lf args s := by kernel_rfl
/- (*palisade/disk.Disk).Complete -/
noncomputable def g10 : SFun := fun call _ args s0 =>
 @List.rec Value (fun _ => RR) none (fun x1 t2 _ =>
 @List.rec Value (fun _ => RR) none (fun x3 t4 _ =>
 @List.rec Value (fun _ => RR) none (fun x5 _ _ =>
 bind2 (some (AObj.cells 4 [(Value.int .i64 (Int.ofNat 0)), (Value.bool false), (Value.int .i64 (Int.ofNat 0)), (Value.int .i64 (Int.ofNat 0))] .leaf .fixed, fun b => Value.pointer (some ⟨b, 0, none⟩))) fun o7 f8 => (fun (v9 : Value) (s10 : Sto) =>
 joinK (fun (x11 : Value) (x12 : Value) (x13 : Value) (x14 : Value) (s15 : Sto) =>
 bindR (nilF x11) fun v16 =>
 bindR (addOffF 2 v16) fun v17 =>
 bindR (loadF s15 none v17) fun v18 =>
 bindR (ixSF 4 v18 x13) fun v19 =>
 bindR (loadF s15 (some 4) v19) fun v20 =>
 bind2 (some (AObj.cells 4 [(Value.int .i64 (Int.ofNat 0)), (Value.bool false), (Value.int .i64 (Int.ofNat 0)), (Value.int .i64 (Int.ofNat 0))] .leaf .fixed, fun b => Value.pointer (some ⟨b, 0, none⟩))) fun o21 f22 => (fun (v23 : Value) (s24 : Sto) =>
 bind2 (storeF s24 4 v23 v20) fun _ s26 =>
 bindR (nilF x11) fun v27 =>
 bindR (addOffF 2 v27) fun v28 =>
 bindR (loadF s26 none v28) fun v29 =>
 bindR (some (Value.func (.func 32) (List.toArray []) (List.toArray [v23]))) fun v30 =>
 bind2 (call 31 [v29, v30] s26) fun v31 s32 =>
 bindR (nilF x11) fun v33 =>
 bindR (addOffF 2 v33) fun v34 =>
 bind2 (storeF s32 1 v34 v31) fun _ s36 =>
 (fun (s37 : Sto) =>
 bindR (addOffF 3 v23) fun v38 =>
 bindR (loadF s37 none v38) fun v39 =>
 bindR (lssF v39 (Value.int .i64 (Int.ofNat 0))) fun v40 =>
 bindR (guardF false v40 (addOffF 3 v23) (some undef)) fun v41 =>
 bindR (guardF false v40 (loadF s37 none v41) (some undef)) fun v42 =>
 bindR (guardF false v40 (some x12) (some undef)) fun v43 =>
 bind2 (guardF false v40 (call 30 [v43] s37) (some (undef, s37))) fun v44 s45 =>
 bindR (guardF false v40 (loadF s45 none v41) (some undef)) fun w46 => @Bool.rec (fun _ => RR) none (
 bindR (guardF false v40 (geqF v42 v44) (some undef)) fun v47 =>
 bindR (pickF (some (Value.bool true)) (some v47) v40) fun v48 =>
 branch v48 (
 bindR (loadF s45 (some 4) v23) fun v49 =>
 bind2 (storeF s45 4 x14 v49) fun _ s51 =>
 bindR (loadF s51 (some 4) x14) fun v52 =>
 some (Value.tuple (Array.mk [v52, (Value.int .i64 (Int.ofNat 12))]), s51)) (
 bindR (addOffF 3 v23) fun v53 =>
 bindR (loadF s45 none v53) fun v54 =>
 bindR (convF .u64 v54) fun v55 =>
 bindR (mulF v55 (Value.int .u64 (Int.ofNat 256))) fun v56 =>
 bindR (addOffF 1 v23) fun v57 =>
 bindR (loadF s45 none v57) fun v58 =>
 branch v58 (
 bind2 (call 33 [x12, v56, (Value.int .i64 (Int.ofNat 256))] s45) fun v59 s60 =>
 bindR (extractF 0 v59) fun v61 =>
 bindR (extractF 1 v59) fun _ =>
 (fun (s63 : Sto) =>
 bindR (loadF s63 (some 4) v23) fun v64 =>
 bindR (addOffF 2 v23) fun v65 =>
 bindR (loadF s63 none v65) fun v66 =>
 bind2 (call 34 [x11, v66, v61] s63) fun v67 s68 =>
 bindR (loadF s68 (some 4) v23) fun w69 => @Bool.rec (fun _ => RR) none (
 bind2 (storeF s68 4 x14 v64) fun _ s71 =>
 bindR (loadF s71 (some 4) x14) fun v72 =>
 some (Value.tuple (Array.mk [v72, v67]), s71)) (vEqF w69 v64)) ⟨Nat.add (Sto.next s60) 0, Sto.objs s60⟩) (
 bindR (addOffF 2 v23) fun v73 =>
 bindR (loadF s45 none v73) fun v74 =>
 bind2 (call 35 [x11, v74] s45) fun v75 s76 =>
 bindR (extractF 0 v75) fun v77 =>
 bindR (extractF 1 v75) fun _ =>
 (fun (s79 : Sto) =>
 bindR (loadF s79 (some 4) v23) fun v80 =>
 bind2 (call 36 [x12, v56, v77] s79) fun v81 s82 =>
 bindR (loadF s82 (some 4) v23) fun w83 => @Bool.rec (fun _ => RR) none (
 bind2 (storeF s82 4 x14 v80) fun _ s85 =>
 bindR (loadF s85 (some 4) x14) fun v86 =>
 some (Value.tuple (Array.mk [v86, v81]), s85)) (vEqF w83 v80)) ⟨Nat.add (Sto.next s76) 0, Sto.objs s76⟩))) (vEqF w46 v42)) ⟨Nat.add (Sto.next s36) 0, Sto.objs s36⟩) (f22 (Sto.next s15)) ⟨Nat.succ (Sto.next s15), setR (Sto.objs s15) (Sto.next s15) o21⟩) fun (J87 : Value → Value → Value → Value → Sto → RR) =>
 bind2 (call 29 [x1] s10) fun v88 s89 =>
 bindR (guardF false v88 (some x3) (some undef)) fun v90 =>
 bind2 (guardF false v88 (call 30 [v90] s89) (some (undef, s89))) fun v91 s92 =>
 bindR (guardF false v88 (eqlF v91 (Value.int .i64 (Int.ofNat 0))) (some undef)) fun v93 =>
 bindR (pickF (some (Value.bool true)) (some v93) v88) fun v94 =>
 branch v94 (
 bindR ((fillA [(Value.int .i64 (Int.ofNat 0)), (Value.bool false), (Value.int .i64 (Int.ofNat 0)), (Value.int .i64 (Int.ofNat 0))] []).bind fun cs => some (Value.agg cs.toArray)) fun v95 =>
 bind2 (storeF s92 4 v9 v95) fun _ s97 =>
 bindR (loadF s97 (some 4) v9) fun v98 =>
 some (Value.tuple (Array.mk [v98, (Value.int .i64 (Int.ofNat 1))]), s97)) (
 bindR (lssF x5 (Value.int .i64 (Int.ofNat 0))) fun v99 =>
 bindR (guardF false v99 (some x5) (some undef)) fun v100 =>
 bindR (guardF false v99 (some x1) (some undef)) fun v101 =>
 bindR (guardF false v99 (nilF v101) (some undef)) fun v102 =>
 bindR (guardF false v99 (addOffF 2 v102) (some undef)) fun v103 =>
 bindR (guardF false v99 (loadF s92 none v103) (some undef)) fun v104 =>
 bindR (guardF false v99 (lenF false v104) (some undef)) fun v105 =>
 bindR (guardF false v99 (geqF v100 v105) (some undef)) fun v106 =>
 bindR (pickF (some (Value.bool true)) (some v106) v99) fun v107 =>
 branch v107 (
 bindR ((fillA [(Value.int .i64 (Int.ofNat 0)), (Value.bool false), (Value.int .i64 (Int.ofNat 0)), (Value.int .i64 (Int.ofNat 0))] []).bind fun cs => some (Value.agg cs.toArray)) fun v108 =>
 bind2 (storeF s92 4 v9 v108) fun _ s110 =>
 bindR (loadF s110 (some 4) v9) fun v111 =>
 some (Value.tuple (Array.mk [v111, (Value.int .i64 (Int.ofNat 14))]), s110)) (
 J87 x1 x3 x5 v9 s92))) (f8 (Sto.next s0)) ⟨Nat.succ (Sto.next s0), setR (Sto.objs s0) (Sto.next s0) o7⟩) t4) t2) args
theorem st10 (call : CallF) (lf : Nat) (args : List Value) (s : Sto) : g10 call lf args s = runK k10 call lf args s := by kernel_rfl
/- (*palisade/backend.Block).Done -/
noncomputable def g11 : SFun := fun call _ args s0 =>
 @List.rec Value (fun _ => RR) none (fun x1 t2 _ =>
 @List.rec Value (fun _ => RR) none (fun x3 t4 _ =>
 @List.rec Value (fun _ => RR) none (fun x5 _ _ =>
 bind2 (call 23 [x1, x3] s0) fun v7 s8 =>
 branch v7 (
 some (Value.tuple (Array.mk [(Value.bool false), (Value.int .i64 (Int.ofNat 1))]), s8)) (
 bindR (nilF x1) fun v9 =>
 bindR (addOffF 7 v9) fun v10 =>
 bindR (loadF s8 none v10) fun v11 =>
 bindR (lookupV s8 (false, [.i]) (Value.agg #[(Value.int .i64 (Int.ofNat 0)), (Value.slice none 0 0), (Value.int .i64 (Int.ofNat 0)), (Value.bool false)]) true v11 x5) fun v12 =>
 bindR (extractF 0 v12) fun v13 =>
 bindR (extractF 1 v12) fun v14 =>
 bind2 (some (AObj.cells 4 [(Value.int .i64 (Int.ofNat 0)), (Value.slice none 0 0), (Value.int .i64 (Int.ofNat 0)), (Value.bool false)] .leaf .fixed, fun b => Value.pointer (some ⟨b, 0, none⟩))) fun o15 f16 => (fun (v17 : Value) (s18 : Sto) =>
 bind2 (storeF s18 4 v17 v13) fun _ s20 =>
 bindR (notF v14) fun v21 =>
 branch v21 (
 some (Value.tuple (Array.mk [(Value.bool false), (Value.int .i64 (Int.ofNat 0))]), s20)) (
 bindR (nilF x1) fun v22 =>
 bindR (addOffF 7 v22) fun v23 =>
 bindR (loadF s20 none v23) fun v24 =>
 bind2 (deleteV s20 (false, [.i]) v24 x5) fun _ s26 =>
 (fun (s27 : Sto) =>
 bindR (nilF x1) fun v28 =>
 bindR (addOffF 4 v28) fun v29 =>
 bindR (loadF s27 none v29) fun v30 =>
 bindR (addOffF 2 v17) fun v31 =>
 bindR (loadF s27 none v31) fun v32 =>
 bindR (nilF x1) fun v33 =>
 bindR (addOffF 5 v33) fun v34 =>
 bindR (loadF s27 none v34) fun v35 =>
 bind2 (call 14 [v30, v32, v35] s27) fun _ s37 =>
 bindR (addOffF 0 v17) fun v38 =>
 bindR (loadF s37 (some 2) v38) fun v39 =>
 bind2 (call 28 [x3, v39, (Value.int .u8 (Int.ofNat 0))] s37) fun v40 s41 =>
 bindR (addOffF 3 v17) fun v42 =>
 bindR (loadF s41 none v42) fun v43 =>
 joinK (fun (x44 : Value) (x45 : Value) (x46 : Value) (x47 : Value) (s48 : Sto) =>
 (fun (s49 : Sto) =>
 bindR (nilF x44) fun v50 =>
 bindR (addOffF 0 v50) fun v51 =>
 bindR (loadF s49 none v51) fun v52 =>
 bindR (addOffF 0 x46) fun v53 =>
 bindR (addOffF 0 v53) fun v54 =>
 bindR (loadF s49 none v54) fun v55 =>
 bind2 (call 27 [v52, x45, v55, x47] s49) fun v56 s57 =>
 some (Value.tuple (Array.mk [(Value.bool true), v56]), s57)) ⟨Nat.add (Sto.next s48) 0, Sto.objs s48⟩) fun (J58 : Value → Value → Value → Value → Sto → RR) => branch v43 (
 bindR (addF v40 (Value.int .i64 (Int.ofNat 256))) fun v59 =>
 J58 x1 x3 v17 v59 s41) (
 J58 x1 x3 v17 v40 s41)) ⟨Nat.add (Sto.next s26) 0, Sto.objs s26⟩)) (f16 (Sto.next s8)) ⟨Nat.succ (Sto.next s8), setR (Sto.objs s8) (Sto.next s8) o15⟩)) t4) t2) args
theorem st11 (call : CallF) (lf : Nat) (args : List Value) (s : Sto) : g11 call lf args s = runK k11 call lf args s := by kernel_rfl
/- (*palisade/frames.Frames).Owner -/
noncomputable def g12 : SFun := fun call _ args s0 =>
 @List.rec Value (fun _ => RR) none (fun x1 t2 _ =>
 @List.rec Value (fun _ => RR) none (fun x3 _ _ =>
 bind2 (call 37 [x1] s0) fun v5 s6 =>
 bindR (guardF false v5 (some x1) (some undef)) fun v7 =>
 bindR (guardF false v5 (nilF v7) (some undef)) fun v8 =>
 bindR (guardF false v5 (addOffF 2 v8) (some undef)) fun v9 =>
 bindR (guardF false v5 (loadF s6 none v9) (some undef)) fun v10 =>
 bindR (guardF false v5 (some x3) (some undef)) fun v11 =>
 bindR (guardF false v5 (lookupV s6 (false, [.i]) (Value.int .i64 (Int.ofNat 0)) false v10 v11) (some undef)) fun v12 =>
 bindR (guardF false v5 (eqlF v12 (Value.int .i64 (Int.ofNat 0))) (some undef)) fun v13 =>
 bindR (pickF (some (Value.bool true)) (some v13) v5) fun v14 =>
 branch v14 (
 some (Value.tuple (Array.mk [(Value.int .i64 (Int.ofNat 0)), (Value.int .i64 (Int.ofNat 0)), (Value.bool false)]), s6)) (
 (fun (s15 : Sto) =>
 bindR (nilF x1) fun v16 =>
 bindR (addOffF 3 v16) fun v17 =>
 bindR (loadF s15 none v17) fun v18 =>
 bindR (lookupV s15 (false, [.i]) (Value.int .i64 (Int.ofNat 0)) false v18 x3) fun v19 =>
 bindR (nilF x1) fun v20 =>
 bindR (addOffF 2 v20) fun v21 =>
 bindR (loadF s15 none v21) fun v22 =>
 bindR (lookupV s15 (false, [.i]) (Value.int .i64 (Int.ofNat 0)) false v22 x3) fun v23 =>
 some (Value.tuple (Array.mk [v19, v23, (Value.bool true)]), s15)) ⟨Nat.add (Sto.next s6) 0, Sto.objs s6⟩)) t2) args
theorem st12 (call : CallF) (lf : Nat) (args : List Value) (s : Sto) : g12 call lf args s = runK k12 call lf args s := by kernel_rfl
/- (*palisade/frames.Frames).Free -/
noncomputable def g14 : SFun := fun call _ args s0 =>
 @List.rec Value (fun _ => RR) none (fun x1 t2 _ =>
 @List.rec Value (fun _ => RR) none (fun x3 t4 _ =>
 @List.rec Value (fun _ => RR) none (fun x5 _ _ =>
 bind2 (mkLitV 1 1 [(Value.int .i64 (Int.ofNat 0))] [(0, 1, x5)]) fun o7 f8 => (fun (v9 : Value) (s10 : Sto) =>
 bind2 (call 38 [x1, x3, v9] s10) fun v11 s12 =>
 joinK (fun (x13 : Value) (x14 : Value) (x15 : Value) (s16 : Sto) =>
 bindR (nilF x13) fun v17 =>
 bindR (addOffF 2 v17) fun v18 =>
 bindR (loadF s16 none v18) fun v19 =>
 bindR (lookupV s16 (false, [.i]) (Value.int .i64 (Int.ofNat 0)) false v19 x14) fun v20 =>
 bindR (subF v20 (Value.int .i64 (Int.ofNat 1))) fun v21 =>
 bind2 (mapUpdateV s16 (false, [.i]) v19 x14 v21) fun _ s23 =>
 bindR (nilF x13) fun v24 =>
 bindR (addOffF 2 v24) fun v25 =>
 bindR (loadF s23 none v25) fun v26 =>
 bindR (lookupV s23 (false, [.i]) (Value.int .i64 (Int.ofNat 0)) false v26 x14) fun v27 =>
 bindR (gtrF v27 (Value.int .i64 (Int.ofNat 0))) fun v28 =>
 branch v28 (
 some (Value.tuple (Array.mk [(Value.bool false), (Value.int .i64 (Int.ofNat 0))]), s23)) (
 bindR (nilF x13) fun v29 =>
 bindR (addOffF 2 v29) fun v30 =>
 bindR (loadF s23 none v30) fun v31 =>
 bind2 (deleteV s23 (false, [.i]) v31 x14) fun _ s33 =>
 bindR (nilF x13) fun v34 =>
 bindR (addOffF 3 v34) fun v35 =>
 bindR (loadF s33 none v35) fun v36 =>
 bind2 (deleteV s33 (false, [.i]) v36 x14) fun _ s38 =>
 (fun (s39 : Sto) =>
 bindR (nilF x13) fun v40 =>
 bindR (addOffF 4 v40) fun v41 =>
 bindR (ixAF 17 1 v41 x15) fun v42 =>
 bindR (loadF s39 none v42) fun v43 =>
 bindR (subF v43 (Value.int .i64 (Int.ofNat 1))) fun v44 =>
 bindR (nilF x13) fun v45 =>
 bindR (addOffF 4 v45) fun v46 =>
 bindR (ixAF 17 1 v46 x15) fun v47 =>
 bind2 (storeF s39 1 v47 v44) fun _ s49 =>
 bindR (nilF x13) fun v50 =>
 bindR (addOffF 38 v50) fun v51 =>
 bindR (loadF s49 none v51) fun v52 =>
 bindR (minmaxVV false [v52, x14]) fun v53 =>
 bindR (nilF x13) fun v54 =>
 bindR (addOffF 38 v54) fun v55 =>
 bind2 (storeF s49 1 v55 v53) fun _ s57 =>
 some (Value.tuple (Array.mk [(Value.bool true), (Value.int .i64 (Int.ofNat 0))]), s57)) ⟨Nat.add (Sto.next s38) 0, Sto.objs s38⟩)) fun (J58 : Value → Value → Value → Sto → RR) =>
 bindR (neqF v11 (Value.int .i64 (Int.ofNat 0))) fun v59 =>
 branch v59 (
 some (Value.tuple (Array.mk [(Value.bool false), v11]), s12)) (
 bindR (nilF x1) fun v60 =>
 bindR (addOffF 1 v60) fun v61 =>
 bindR (loadF s12 none v61) fun v62 =>
 bindR (lssF x3 v62) fun v63 =>
 branch v63 (
 some (Value.tuple (Array.mk [(Value.bool false), (Value.int .i64 (Int.ofNat 21))]), s12)) (
 J58 x1 x3 x5 s12))) (f8 (Sto.next s0)) ⟨Nat.succ (Sto.next s0), setR (Sto.objs s0) (Sto.next s0) o7⟩) t4) t2) args
theorem st14 (call : CallF) (lf : Nat) (args : List Value) (s : Sto) : g14 call lf args s = runK k14 call lf args s := by kernel_rfl
/- palisade/mem.New -/
noncomputable def g16 : SFun := fun _ _ args s0 =>
 @List.rec Value (fun _ => RR) none (fun x1 _ _ =>
 bindR (lssF x1 (Value.int .i64 (Int.ofNat 1))) fun v3 =>
 bindR (guardF false v3 (some x1) (some undef)) fun v4 =>
 bindR (guardF false v3 (gtrF v4 (Value.int .i64 (Int.ofNat 65536))) (some undef)) fun v5 =>
 bindR (pickF (some (Value.bool true)) (some v5) v3) fun v6 =>
 branch v6 (
 some (Value.tuple (Array.mk [(Value.pointer none), (Value.int .i64 (Int.ofNat 2))]), s0)) (
 bindR (mulF x1 (Value.int .i64 (Int.ofNat 256))) fun v7 =>
 bind2 (makeSliceV [(Value.int .u8 (Int.ofNat 0))] 1 v7 v7) fun o8 f9 => (fun (v10 : Value) (s11 : Sto) =>
 bindR ((fillA [(Value.slice none 0 0)] [(0, 1, v10)]).bind fun cs => some (Value.agg cs.toArray)) fun v12 =>
 bind2 (some (boxV v12)) fun o13 f14 => (fun (v15 : Value) (s16 : Sto) =>
 some (Value.tuple (Array.mk [v15, (Value.int .i64 (Int.ofNat 0))]), s16)) (f14 (Sto.next s11)) ⟨Nat.succ (Sto.next s11), setR (Sto.objs s11) (Sto.next s11) o13⟩) (f9 (Sto.next s0)) ⟨Nat.succ (Sto.next s0), setR (Sto.objs s0) (Sto.next s0) o8⟩)) args
theorem st16 (call : CallF) (lf : Nat) (args : List Value) (s : Sto) : g16 call lf args s = runK k16 call lf args s := by kernel_rfl
/- palisade/frames.New -/
noncomputable def g17 : SFun := fun _ lf args s0 =>
 @List.rec Value (fun _ => RR) none (fun x1 t2 _ =>
 @List.rec Value (fun _ => RR) none (fun x3 _ _ =>
 bindR (lssF x1 (Value.int .i64 (Int.ofNat 1))) fun v5 =>
 bindR (guardF false v5 (some x1) (some undef)) fun v6 =>
 bindR (guardF false v5 (gtrF v6 (Value.int .i64 (Int.ofNat 65536))) (some undef)) fun v7 =>
 bindR (pickF (some (Value.bool true)) (some v7) v5) fun v8 =>
 bindR (guardF false v8 (some x3) (some undef)) fun v9 =>
 bindR (guardF false v8 (lssF v9 (Value.int .i64 (Int.ofNat 0))) (some undef)) fun v10 =>
 bindR (pickF (some (Value.bool true)) (some v10) v8) fun v11 =>
 bindR (guardF false v11 (some x3) (some undef)) fun v12 =>
 bindR (guardF false v11 (some x1) (some undef)) fun v13 =>
 bindR (guardF false v11 (gtrF v12 v13) (some undef)) fun v14 =>
 bindR (pickF (some (Value.bool true)) (some v14) v11) fun v15 =>
 branch v15 (
 some (Value.tuple (Array.mk [(Value.pointer none), (Value.int .i64 (Int.ofNat 2))]), s0)) (
 bind2 (some (AObj.map [] 0, fun b => Value.map (some b))) fun o16 f17 => (fun (v18 : Value) (s19 : Sto) =>
 bind2 (some (AObj.map [] 0, fun b => Value.map (some b))) fun o20 f21 => (fun (v22 : Value) (s23 : Sto) =>
 bindR ((fillA [(Value.int .i64 (Int.ofNat 0)), (Value.int .i64 (Int.ofNat 0)), (Value.map none), (Value.map none), (Value.int .i64 (Int.ofNat 0)), (Value.int .i64 (Int.ofNat 0)), (Value.int .i64 (Int.ofNat 0)), (Value.int .i64 (Int.ofNat 0)), (Value.int .i64 (Int.ofNat 0)), (Value.int .i64 (Int.ofNat 0)), (Value.int .i64 (Int.ofNat 0)), (Value.int .i64 (Int.ofNat 0)), (Value.int .i64 (Int.ofNat 0)), (Value.int .i64 (Int.ofNat 0)), (Value.int .i64 (Int.ofNat 0)), (Value.int .i64 (Int.ofNat 0)), (Value.int .i64 (Int.ofNat 0)), (Value.int .i64 (Int.ofNat 0)), (Value.int .i64 (Int.ofNat 0)), (Value.int .i64 (Int.ofNat 0)), (Value.int .i64 (Int.ofNat 0)), (Value.int .i64 (Int.ofNat 0)), (Value.int .i64 (Int.ofNat 0)), (Value.int .i64 (Int.ofNat 0)), (Value.int .i64 (Int.ofNat 0)), (Value.int .i64 (Int.ofNat 0)), (Value.int .i64 (Int.ofNat 0)), (Value.int .i64 (Int.ofNat 0)), (Value.int .i64 (Int.ofNat 0)), (Value.int .i64 (Int.ofNat 0)), (Value.int .i64 (Int.ofNat 0)), (Value.int .i64 (Int.ofNat 0)), (Value.int .i64 (Int.ofNat 0)), (Value.int .i64 (Int.ofNat 0)), (Value.int .i64 (Int.ofNat 0)), (Value.int .i64 (Int.ofNat 0)), (Value.int .i64 (Int.ofNat 0)), (Value.int .i64 (Int.ofNat 0)), (Value.int .i64 (Int.ofNat 0))] [(0, 1, x1), (1, 1, x3), (2, 1, v18), (3, 1, v22), (38, 1, x3)]).bind fun cs => some (Value.agg cs.toArray)) fun v24 =>
 bind2 (some (boxV v24)) fun o25 f26 => (fun (v27 : Value) (s28 : Sto) =>
 joinK (fun (x29 : Value) (x30 : Value) (x31 : Value) (s32 : Sto) =>
 bindR (nilF x31) fun v33 =>
 bindR (addOffF 4 v33) fun v34 =>
 bindR (ixAF 17 1 v34 (Value.int .i64 (Int.ofNat 0))) fun v35 =>
 bind2 (storeF s32 1 v35 x30) fun _ s37 =>
 joinK (fun (x38 : Value) (s39 : Sto) =>
 some (Value.tuple (Array.mk [x38, (Value.int .i64 (Int.ofNat 0))]), s39)) fun (J40 : Value → Sto → RR) =>
 (@Nat.rec (fun _ => Value → Value → Value → Sto → RR) (fun _ _ _ _ => none) (fun _ J41 => fun (x42 : Value) (x43 : Value) (x44 : Value) (s45 : Sto) =>
 bindR (lssF x44 (Value.int .i64 (Int.ofNat 17))) fun v46 =>
 branch v46 (
 joinK (fun (x47 : Value) (x48 : Value) (x49 : Value) (s50 : Sto) =>
 bindR (addF x49 (Value.int .i64 (Int.ofNat 1))) fun v51 =>
 J41 x47 x48 v51 s50) fun (J52 : Value → Value → Value → Sto → RR) =>
 bindR (nilF x43) fun v53 =>
 bindR (addOffF 21 v53) fun v54 =>
 bindR (ixAF 17 1 v54 x44) fun v55 =>
 bind2 (storeF s45 1 v55 x42) fun _ s57 =>
 J52 x42 x43 x44 s57) (
 J40 x43 s45)) lf) x29 x31 (Value.int .i64 (Int.ofNat 0)) s37) fun (J58 : Value → Value → Value → Sto → RR) =>
 (@Nat.rec (fun _ => Value → Value → Value → Value → Value → Sto → RR) (fun _ _ _ _ _ _ => none) (fun _ J59 => fun (x60 : Value) (x61 : Value) (x62 : Value) (x63 : Value) (x64 : Value) (s65 : Sto) =>
 bindR (lssF x64 x63) fun v66 =>
 branch v66 (
 joinK (fun (x67 : Value) (x68 : Value) (x69 : Value) (x70 : Value) (x71 : Value) (s72 : Sto) =>
 bindR (addF x71 (Value.int .i64 (Int.ofNat 1))) fun v73 =>
 J59 x67 x68 x69 x70 v73 s72) fun (J74 : Value → Value → Value → Value → Value → Sto → RR) =>
 bindR (nilF x62) fun v75 =>
 bindR (addOffF 2 v75) fun v76 =>
 bindR (loadF s65 none v76) fun v77 =>
 bind2 (mapUpdateV s65 (false, [.i]) v77 x64 (Value.int .i64 (Int.ofNat 1))) fun _ s79 =>
 J74 x60 x61 x62 x63 x64 s79) (
 J58 x60 x61 x62 s65)) lf) x1 x3 v27 x3 (Value.int .i64 (Int.ofNat 0)) s28) (f26 (Sto.next s23)) ⟨Nat.succ (Sto.next s23), setR (Sto.objs s23) (Sto.next s23) o25⟩) (f21 (Sto.next s19)) ⟨Nat.succ (Sto.next s19), setR (Sto.objs s19) (Sto.next s19) o20⟩) (f17 (Sto.next s0)) ⟨Nat.succ (Sto.next s0), setR (Sto.objs s0) (Sto.next s0) o16⟩)) t2) args
theorem st17 (call : CallF) (lf : Nat) (args : List Value) (s : Sto) : g17 call lf args s = runK k17 call lf args s := by kernel_rfl
/- palisade/disk.New -/
noncomputable def g18 : SFun := fun _ _ args s0 =>
 @List.rec Value (fun _ => RR) none (fun x1 _ _ =>
 bindR (lssF x1 (Value.int .i64 (Int.ofNat 1))) fun v3 =>
 bindR (guardF false v3 (some x1) (some undef)) fun v4 =>
 bindR (guardF false v3 (gtrF v4 (Value.int .i64 (Int.ofNat 65536))) (some undef)) fun v5 =>
 bindR (pickF (some (Value.bool true)) (some v5) v3) fun v6 =>
 branch v6 (
 some (Value.tuple (Array.mk [(Value.pointer none), (Value.int .i64 (Int.ofNat 2))]), s0)) (
 bind2 (some (AObj.map [] 0, fun b => Value.map (some b))) fun o7 f8 => (fun (v9 : Value) (s10 : Sto) =>
 bindR ((fillA [(Value.int .i64 (Int.ofNat 0)), (Value.map none), (Value.slice none 0 0)] [(0, 1, x1), (1, 1, v9)]).bind fun cs => some (Value.agg cs.toArray)) fun v11 =>
 bind2 (some (boxV v11)) fun o12 f13 => (fun (v14 : Value) (s15 : Sto) =>
 some (Value.tuple (Array.mk [v14, (Value.int .i64 (Int.ofNat 0))]), s15)) (f13 (Sto.next s10)) ⟨Nat.succ (Sto.next s10), setR (Sto.objs s10) (Sto.next s10) o12⟩) (f8 (Sto.next s0)) ⟨Nat.succ (Sto.next s0), setR (Sto.objs s0) (Sto.next s0) o7⟩)) args
theorem st18 (call : CallF) (lf : Nat) (args : List Value) (s : Sto) : g18 call lf args s = runK k18 call lf args s := by kernel_rfl
/- (*palisade/frames.Frames).Alloc -/
noncomputable def g19 : SFun := fun call lf args s0 =>
 @List.rec Value (fun _ => RR) none (fun x1 t2 _ =>
 @List.rec Value (fun _ => RR) none (fun x3 _ _ =>
 bind2 (mkLitV 1 1 [(Value.int .i64 (Int.ofNat 0))] [(0, 1, x3)]) fun o5 f6 => (fun (v7 : Value) (s8 : Sto) =>
 bind2 (call 40 [x1, v7] s8) fun v9 s10 =>
 joinK (fun (x11 : Value) (x12 : Value) (s13 : Sto) =>
 joinK (fun (x14 : Value) (x15 : Value) (s16 : Sto) =>
 (fun (s17 : Sto) =>
 bindR (nilF x14) fun v18 =>
 bindR (addOffF 38 v18) fun v19 =>
 bindR (loadF s17 none v19) fun v20 =>
 bindR (nilF x14) fun v21 =>
 bindR (addOffF 0 v21) fun v22 =>
 bindR (loadF s17 none v22) fun v23 =>
 bindR (eqlF v20 v23) fun v24 =>
 branch v24 (
 some (Value.tuple (Array.mk [(Value.int .i64 (Int.ofNat 0)), (Value.int .i64 (Int.ofNat 20))]), s17)) (
 (fun (s25 : Sto) =>
 bindR (nilF x14) fun v26 =>
 bindR (addOffF 2 v26) fun v27 =>
 bindR (loadF s25 none v27) fun v28 =>
 bindR (nilF x14) fun v29 =>
 bindR (addOffF 38 v29) fun v30 =>
 bindR (loadF s25 none v30) fun v31 =>
 bindR (nilF x14) fun v32 =>
 bindR (addOffF 3 v32) fun v33 =>
 bindR (loadF s25 none v33) fun v34 =>
 bindR (nilF x14) fun v35 =>
 bindR (addOffF 38 v35) fun v36 =>
 bindR (loadF s25 none v36) fun v37 =>
 bind2 (mapEntryV s25 (false, [.i]) (Value.int .i64 (Int.ofNat 0)) v28 v31) fun v38 s39 =>
 bindR (extractF 1 v38) fun v40 =>
 bind2 (entryStoreV s39 v28 v40 (Value.int .i64 (Int.ofNat 1))) fun _ s42 =>
 bind2 (mapEntryV s42 (false, [.i]) (Value.int .i64 (Int.ofNat 0)) v34 v37) fun v43 s44 =>
 bindR (extractF 1 v43) fun v45 =>
 bind2 (entryStoreV s44 v34 v45 x15) fun _ s47 =>
 (fun (s48 : Sto) =>
 bindR (nilF x14) fun v49 =>
 bindR (addOffF 4 v49) fun v50 =>
 bindR (ixAF 17 1 v50 x15) fun v51 =>
 bindR (loadF s48 none v51) fun v52 =>
 bindR (addF v52 (Value.int .i64 (Int.ofNat 1))) fun v53 =>
 bindR (nilF x14) fun v54 =>
 bindR (addOffF 4 v54) fun v55 =>
 bindR (ixAF 17 1 v55 x15) fun v56 =>
 bind2 (storeF s48 1 v56 v53) fun _ s58 =>
 bindR (nilF x14) fun v59 =>
 bindR (addOffF 38 v59) fun v60 =>
 bindR (loadF s58 none v60) fun v61 =>
 some (Value.tuple (Array.mk [v61, (Value.int .i64 (Int.ofNat 0))]), s58)) ⟨Nat.add (Sto.next s47) 0, Sto.objs s47⟩) ⟨Nat.add (Sto.next s17) 0, Sto.objs s17⟩)) ⟨Nat.add (Sto.next s16) 0, Sto.objs s16⟩) fun (J62 : Value → Value → Sto → RR) =>
 (@Nat.rec (fun _ => Value → Value → Sto → RR) (fun _ _ _ => none) (fun _ J63 => fun (x64 : Value) (x65 : Value) (s66 : Sto) =>
 (fun (s67 : Sto) =>
 bindR (nilF x64) fun v68 =>
 bindR (addOffF 38 v68) fun v69 =>
 bindR (loadF s67 none v69) fun v70 =>
 bindR (nilF x64) fun v71 =>
 bindR (addOffF 0 v71) fun v72 =>
 bindR (loadF s67 none v72) fun v73 =>
 bindR (lssF v70 v73) fun v74 =>
 bindR (guardF true v74 (some x64) (some undef)) fun v75 =>
 bindR (guardF true v74 (nilF v75) (some undef)) fun v76 =>
 bindR (guardF true v74 (addOffF 2 v76) (some undef)) fun v77 =>
 bindR (guardF true v74 (loadF s67 none v77) (some undef)) fun v78 =>
 bindR (guardF true v74 (some x64) (some undef)) fun v79 =>
 bindR (guardF true v74 (nilF v79) (some undef)) fun v80 =>
 bindR (guardF true v74 (addOffF 38 v80) (some undef)) fun v81 =>
 bindR (guardF true v74 (loadF s67 none v81) (some undef)) fun v82 =>
 bindR (guardF true v74 (lookupV s67 (false, [.i]) (Value.int .i64 (Int.ofNat 0)) false v78 v82) (some undef)) fun v83 =>
 bindR (guardF true v74 (gtrF v83 (Value.int .i64 (Int.ofNat 0))) (some undef)) fun v84 =>
 bindR (pickF (some v84) (some (Value.bool false)) v74) fun v85 =>
 branch v85 (
 joinK (fun (x86 : Value) (x87 : Value) (s88 : Sto) =>
 J63 x86 x87 s88) fun (J89 : Value → Value → Sto → RR) =>
 bindR (nilF x64) fun v90 =>
 bindR (addOffF 38 v90) fun v91 =>
 bindR (loadF s67 none v91) fun v92 =>
 bindR (addF v92 (Value.int .i64 (Int.ofNat 1))) fun v93 =>
 bindR (nilF x64) fun v94 =>
 bindR (addOffF 38 v94) fun v95 =>
 bind2 (storeF s67 1 v95 v93) fun _ s97 =>
 J89 x64 x65 s97) (
 J62 x64 x65 s67)) ⟨Nat.add (Sto.next s66) 0, Sto.objs s66⟩) lf) x11 x12 s13) fun (J98 : Value → Value → Sto → RR) =>
 bindR (neqF v9 (Value.int .i64 (Int.ofNat 0))) fun v99 =>
 branch v99 (
 some (Value.tuple (Array.mk [(Value.int .i64 (Int.ofNat 0)), v9]), s10)) (
 (fun (s100 : Sto) =>
 bindR (nilF x1) fun v101 =>
 bindR (addOffF 4 v101) fun v102 =>
 bindR (ixAF 17 1 v102 x3) fun v103 =>
 bindR (loadF s100 none v103) fun v104 =>
 bindR (nilF x1) fun v105 =>
 bindR (addOffF 21 v105) fun v106 =>
 bindR (ixAF 17 1 v106 x3) fun v107 =>
 bindR (loadF s100 none v107) fun v108 =>
 bindR (geqF v104 v108) fun v109 =>
 branch v109 (
 some (Value.tuple (Array.mk [(Value.int .i64 (Int.ofNat 0)), (Value.int .i64 (Int.ofNat 19))]), s100)) (
 J98 x1 x3 s100)) ⟨Nat.add (Sto.next s10) 0, Sto.objs s10⟩)) (f6 (Sto.next s0)) ⟨Nat.succ (Sto.next s0), setR (Sto.objs s0) (Sto.next s0) o5⟩) t2) args
theorem st19 (call : CallF) (lf : Nat) (args : List Value) (s : Sto) : g19 call lf args s = runK k19 call lf args s := by kernel_rfl
/- palisade/ring.New -/
noncomputable def g20 : SFun := fun call _ args s0 =>
 @List.rec Value (fun _ => RR) none (fun x1 t2 _ =>
 @List.rec Value (fun _ => RR) none (fun x3 _ _ =>
 bind2 (call 41 [x3] s0) fun v5 s6 =>
 bindR (notF v5) fun v7 =>
 bindR (guardF false v7 (some x1) (some undef)) fun v8 =>
 bindR (guardF false v7 (remF v8 (Value.int .u64 (Int.ofNat 8))) (some undef)) fun v9 =>
 bindR (guardF false v7 (neqF v9 (Value.int .u64 (Int.ofNat 0))) (some undef)) fun v10 =>
 bindR (pickF (some (Value.bool true)) (some v10) v7) fun v11 =>
 bindR (guardF false v11 (some x1) (some undef)) fun v12 =>
 bindR (guardF false v11 (gtrF v12 (Value.int .u64 (Int.ofNat 1099511627776))) (some undef)) fun v13 =>
 bindR (pickF (some (Value.bool true)) (some v13) v11) fun v14 =>
 branch v14 (
 some (Value.tuple (Array.mk [(Value.pointer none), (Value.int .i64 (Int.ofNat 2))]), s6)) (
 bindR (convF .u64 x3) fun v15 =>
 bindR ((fillA [(Value.int .u64 (Int.ofNat 0)), (Value.int .u64 (Int.ofNat 0)), (Value.int .u64 (Int.ofNat 0)), (Value.int .u64 (Int.ofNat 0)), (Value.bool false)] [(0, 1, x1), (1, 1, v15)]).bind fun cs => some (Value.agg cs.toArray)) fun v16 =>
 bind2 (some (boxV v16)) fun o17 f18 => (fun (v19 : Value) (s20 : Sto) =>
 some (Value.tuple (Array.mk [v19, (Value.int .i64 (Int.ofNat 0))]), s20)) (f18 (Sto.next s6)) ⟨Nat.succ (Sto.next s6), setR (Sto.objs s6) (Sto.next s6) o17⟩)) t2) args
theorem st20 (call : CallF) (lf : Nat) (args : List Value) (s : Sto) : g20 call lf args s = runK k20 call lf args s := by kernel_rfl
/- palisade/backend.NewBlock -/
noncomputable def g21 : SFun := fun call _ args s0 =>
 @List.rec Value (fun _ => RR) none (fun x1 t2 _ =>
 @List.rec Value (fun _ => RR) none (fun x3 t4 _ =>
 @List.rec Value (fun _ => RR) none (fun x5 t6 _ =>
 @List.rec Value (fun _ => RR) none (fun x7 t8 _ =>
 @List.rec Value (fun _ => RR) none (fun x9 t10 _ =>
 @List.rec Value (fun _ => RR) none (fun x11 _ _ =>
 joinK (fun (x13 : Value) (x14 : Value) (x15 : Value) (x16 : Value) (x17 : Value) (x18 : Value) (s19 : Sto) =>
 bind2 (some (AObj.map [] 0, fun b => Value.map (some b))) fun o20 f21 => (fun (v22 : Value) (s23 : Sto) =>
 bindR ((fillA [(Value.pointer none), (Value.pointer none), (Value.int .i64 (Int.ofNat 0)), (Value.int .i64 (Int.ofNat 0)), (Value.pointer none), (Value.int .i64 (Int.ofNat 0)), (Value.int .i64 (Int.ofNat 0)), (Value.map none)] [(0, 1, x13), (1, 1, x14), (2, 1, x15), (3, 1, x16), (4, 1, x17), (5, 1, x18), (7, 1, v22)]).bind fun cs => some (Value.agg cs.toArray)) fun v24 =>
 bind2 (some (boxV v24)) fun o25 f26 => (fun (v27 : Value) (s28 : Sto) =>
 some (Value.tuple (Array.mk [v27, (Value.int .i64 (Int.ofNat 0))]), s28)) (f26 (Sto.next s23)) ⟨Nat.succ (Sto.next s23), setR (Sto.objs s23) (Sto.next s23) o25⟩) (f21 (Sto.next s19)) ⟨Nat.succ (Sto.next s19), setR (Sto.objs s19) (Sto.next s19) o20⟩) fun (J29 : Value → Value → Value → Value → Value → Value → Sto → RR) =>
 bindR (eqvF .ptr false true x1 (Value.pointer none)) fun v30 =>
 bindR (guardF false v30 (some x3) (some undef)) fun v31 =>
 bindR (guardF false v30 (eqvF .ptr false true v31 (Value.pointer none)) (some undef)) fun v32 =>
 bindR (pickF (some (Value.bool true)) (some v32) v30) fun v33 =>
 bindR (guardF false v33 (some x9) (some undef)) fun v34 =>
 bindR (guardF false v33 (eqvF .ptr false true v34 (Value.pointer none)) (some undef)) fun v35 =>
 bindR (pickF (some (Value.bool true)) (some v35) v33) fun v36 =>
 branch v36 (
 some (Value.tuple (Array.mk [(Value.pointer none), (Value.int .i64 (Int.ofNat 1))]), s0)) (
 bindR (lssF x11 (Value.int .i64 (Int.ofNat 1))) fun v37 =>
 bindR (guardF false v37 (some x11) (some undef)) fun v38 =>
 bindR (guardF false v37 (gtrF v38 (Value.int .i64 (Int.ofNat 16))) (some undef)) fun v39 =>
 bindR (pickF (some (Value.bool true)) (some v39) v37) fun v40 =>
 bindR (guardF false v40 (some x5) (some undef)) fun v41 =>
 bindR (guardF false v40 (lssF v41 (Value.int .i64 (Int.ofNat 0))) (some undef)) fun v42 =>
 bindR (pickF (some (Value.bool true)) (some v42) v40) fun v43 =>
 bindR (guardF false v43 (some x7) (some undef)) fun v44 =>
 bindR (guardF false v43 (lssF v44 (Value.int .i64 (Int.ofNat 0))) (some undef)) fun v45 =>
 bindR (pickF (some (Value.bool true)) (some v45) v43) fun v46 =>
 bindR (guardF false v46 (some x5) (some undef)) fun v47 =>
 bindR (guardF false v46 (some x3) (some undef)) fun v48 =>
 bind2 (guardF false v46 (call 42 [v48] s0) (some (undef, s0))) fun v49 s50 =>
 bindR (guardF false v46 (gtrF v47 v49) (some undef)) fun v51 =>
 bindR (pickF (some (Value.bool true)) (some v51) v46) fun v52 =>
 bindR (guardF false v52 (some x7) (some undef)) fun v53 =>
 bindR (guardF false v52 (some x3) (some undef)) fun v54 =>
 bind2 (guardF false v52 (call 42 [v54] s50) (some (undef, s50))) fun v55 s56 =>
 bindR (guardF false v52 (some x5) (some undef)) fun v57 =>
 bindR (guardF false v52 (subF v55 v57) (some undef)) fun v58 =>
 bindR (guardF false v52 (gtrF v53 v58) (some undef)) fun v59 =>
 bindR (pickF (some (Value.bool true)) (some v59) v52) fun v60 =>
 branch v60 (
 some (Value.tuple (Array.mk [(Value.pointer none), (Value.int .i64 (Int.ofNat 2))]), s56)) (
 J29 x1 x3 x5 x7 x9 x11 s56))) t10) t8) t6) t4) t2) args
theorem st21 (call : CallF) (lf : Nat) (args : List Value) (s : Sto) : g21 call lf args s = runK k21 call lf args s := by kernel_rfl
/- (*palisade/palisadelaw24.Flat).Store -/
noncomputable def g22 : SFun := fun call _ args s0 =>
 @List.rec Value (fun _ => RR) none (fun x1 t2 _ =>
 @List.rec Value (fun _ => RR) none (fun x3 t4 _ =>
 @List.rec Value (fun _ => RR) none (fun x5 t6 _ =>
 @List.rec Value (fun _ => RR) none (fun x7 _ _ =>
 bindR (nilF x1) fun v9 =>
 bindR (addOffF 2 v9) fun v10 =>
 bindR (loadF s0 none v10) fun v11 =>
 bindR (mulF (Value.int .i64 (Int.ofNat 256)) v11) fun v12 =>
 bindR (convF .u64 v12) fun v13 =>
 bindR (geqF x3 v13) fun v14 =>
 branch v14 (
 some ((Value.int .i64 (Int.ofNat 12)), s0)) (
 (fun (s15 : Sto) =>
 bindR (nilF x1) fun v16 =>
 bindR (addOffF 0 v16) fun v17 =>
 bindR (loadF s15 none v17) fun v18 =>
 bindR (nilF x1) fun v19 =>
 bindR (addOffF 1 v19) fun v20 =>
 bindR (loadF s15 none v20) fun v21 =>
 bindR (mulF (Value.int .i64 (Int.ofNat 256)) v21) fun v22 =>
 bindR (convF .u64 v22) fun v23 =>
 bindR (addF x3 v23) fun v24 =>
 bind2 (call 43 [v18, v24, x5, x7] s15) fun v25 s26 =>
 some (v25, s26)) ⟨Nat.add (Sto.next s0) 0, Sto.objs s0⟩)) t6) t4) t2) args
theorem st22 (call : CallF) (lf : Nat) (args : List Value) (s : Sto) : g22 call lf args s = runK k22 call lf args s := by kernel_rfl
/- (*palisade/backend.Block).none -/
noncomputable def g23 : SFun := fun _ _ args s0 =>
 @List.rec Value (fun _ => RR) none (fun x1 t2 _ =>
 @List.rec Value (fun _ => RR) none (fun x3 _ _ =>
 bindR (eqvF .ptr false true x1 (Value.pointer none)) fun v5 =>
 bindR (guardF false v5 (some x1) (some undef)) fun v6 =>
 bindR (guardF false v5 (nilF v6) (some undef)) fun v7 =>
 bindR (guardF false v5 (addOffF 7 v7) (some undef)) fun v8 =>
 bindR (guardF false v5 (loadF s0 none v8) (some undef)) fun v9 =>
 bindR (guardF false v5 (eqvF .map false true v9 (Value.map none)) (some undef)) fun v10 =>
 bindR (pickF (some (Value.bool true)) (some v10) v5) fun v11 =>
 bindR (guardF false v11 (some x3) (some undef)) fun v12 =>
 bindR (guardF false v11 (eqvF .iface false true v12 Value.nilIface) (some undef)) fun v13 =>
 bindR (pickF (some (Value.bool true)) (some v13) v11) fun v14 =>
 some (v14, s0)) t2) args
theorem st23 (call : CallF) (lf : Nat) (args : List Value) (s : Sto) : g23 call lf args s = runK k23 call lf args s := by kernel_rfl
/- (*palisade/ring.Ring).Next -/
noncomputable def g24 : SFun := fun call _ args s0 =>
 @List.rec Value (fun _ => RR) none (fun x1 t2 _ =>
 @List.rec Value (fun _ => RR) none (fun x3 _ _ =>
 bind2 (some (AObj.cells 2 [(Value.int .i64 (Int.ofNat 0)), (Value.slice none 0 0)] .leaf .fixed, fun b => Value.pointer (some ⟨b, 0, none⟩))) fun o5 f6 => (fun (v7 : Value) (s8 : Sto) =>
 bind2 (call 44 [x1, x3] s8) fun v9 s10 =>
 bindR (neqF v9 (Value.int .i64 (Int.ofNat 0))) fun v11 =>
 branch v11 (
 bindR ((fillA [(Value.int .i64 (Int.ofNat 0)), (Value.slice none 0 0)] []).bind fun cs => some (Value.agg cs.toArray)) fun v12 =>
 bind2 (storeF s10 2 v7 v12) fun _ s14 =>
 bindR (loadF s14 (some 2) v7) fun v15 =>
 some (Value.tuple (Array.mk [v15, (Value.bool false), v9]), s14)) (
 bindR ((fillA [Value.nilIface, (Value.bool false)] [(0, 1, x3)]).bind fun cs => some (Value.agg cs.toArray)) fun v16 =>
 bind2 (some (boxV v16)) fun o17 f18 => (fun (v19 : Value) (s20 : Sto) =>
 (fun (s21 : Sto) =>
 bindR (nilF x1) fun v22 =>
 bindR (addOffF 0 v22) fun v23 =>
 bindR (loadF s21 none v23) fun v24 =>
 bindR (nilF x1) fun v25 =>
 bindR (addOffF 1 v25) fun v26 =>
 bindR (loadF s21 none v26) fun v27 =>
 bindR (mulF (Value.int .u64 (Int.ofNat 32)) v27) fun v28 =>
 bindR (addF v24 v28) fun v29 =>
 bind2 (call 45 [v19, v29] s21) fun v30 s31 =>
 bindR (nilF v19) fun v32 =>
 bindR (addOffF 1 v32) fun v33 =>
 bindR (loadF s31 none v33) fun v34 =>
 bindR (notF v34) fun v35 =>
 bindR (guardF true v35 (some v30) (some undef)) fun v36 =>
 bindR (guardF true v35 (some x1) (some undef)) fun v37 =>
 bindR (guardF true v35 (nilF v37) (some undef)) fun v38 =>
 bindR (guardF true v35 (addOffF 2 v38) (some undef)) fun v39 =>
 bindR (guardF true v35 (loadF s31 none v39) (some undef)) fun v40 =>
 bindR (guardF true v35 (eqlF v36 v40) (some undef)) fun v41 =>
 bindR (pickF (some v41) (some (Value.bool false)) v35) fun v42 =>
 branch v42 (
 bindR ((fillA [(Value.int .i64 (Int.ofNat 0)), (Value.slice none 0 0)] []).bind fun cs => some (Value.agg cs.toArray)) fun v43 =>
 bind2 (storeF s31 2 v7 v43) fun _ s45 =>
 bindR (loadF s45 (some 2) v7) fun v46 =>
 some (Value.tuple (Array.mk [v46, (Value.bool false), (Value.int .i64 (Int.ofNat 0))]), s45)) (
 (fun (s47 : Sto) =>
 bindR (nilF v19) fun v48 =>
 bindR (addOffF 1 v48) fun v49 =>
 bindR (loadF s47 none v49) fun v50 =>
 bindR (notF v50) fun v51 =>
 bindR (guardF true v51 (some v30) (some undef)) fun v52 =>
 bindR (guardF true v51 (some x1) (some undef)) fun v53 =>
 bindR (guardF true v51 (nilF v53) (some undef)) fun v54 =>
 bindR (guardF true v51 (addOffF 2 v54) (some undef)) fun v55 =>
 bindR (guardF true v51 (loadF s47 none v55) (some undef)) fun v56 =>
 bindR (guardF true v51 (subF v52 v56) (some undef)) fun v57 =>
 bindR (guardF true v51 (some x1) (some undef)) fun v58 =>
 bindR (guardF true v51 (nilF v58) (some undef)) fun v59 =>
 bindR (guardF true v51 (addOffF 1 v59) (some undef)) fun v60 =>
 bindR (guardF true v51 (loadF s47 none v60) (some undef)) fun v61 =>
 bindR (guardF true v51 (leqF v57 v61) (some undef)) fun v62 =>
 bindR (pickF (some v62) (some (Value.bool false)) v51) fun v63 =>
 joinK (fun (x64 : Value) (x65 : Value) (s66 : Sto) =>
 bindR (nilF x64) fun v67 =>
 bindR (addOffF 4 v67) fun v68 =>
 bind2 (storeF s66 1 v68 (Value.bool true)) fun _ s70 =>
 bindR ((fillA [(Value.int .i64 (Int.ofNat 0)), (Value.slice none 0 0)] []).bind fun cs => some (Value.agg cs.toArray)) fun v71 =>
 bind2 (storeF s70 2 x65 v71) fun _ s73 =>
 bindR (loadF s73 (some 2) x65) fun v74 =>
 some (Value.tuple (Array.mk [v74, (Value.bool false), (Value.int .i64 (Int.ofNat 22))]), s73)) fun (J75 : Value → Value → Sto → RR) => branch v63 (
 (fun (s76 : Sto) =>
 bindR (nilF x1) fun v77 =>
 bindR (addOffF 2 v77) fun v78 =>
 bindR (loadF s76 none v78) fun v79 =>
 bindR (nilF x1) fun v80 =>
 bindR (addOffF 1 v80) fun v81 =>
 bindR (loadF s76 none v81) fun v82 =>
 bindR (remF v79 v82) fun v83 =>
 bindR (addF (Value.int .u64 (Int.ofNat 1)) v83) fun v84 =>
 bindR (mulF (Value.int .u64 (Int.ofNat 8)) v84) fun v85 =>
 bindR (addF v29 v85) fun v86 =>
 bind2 (call 45 [v19, v86] s76) fun v87 s88 =>
 bindR (nilF v19) fun v89 =>
 bindR (addOffF 1 v89) fun v90 =>
 bindR (loadF s88 none v90) fun v91 =>
 bindR (notF v91) fun v92 =>
 joinK (fun (x93 : Value) (x94 : Value) (s95 : Sto) =>
 J75 x93 x94 s95) fun (J96 : Value → Value → Sto → RR) => branch v92 (
 bind2 (call 46 [x1, v19, v87] s88) fun v97 s98 =>
 bindR (extractF 0 v97) fun v99 =>
 bindR (extractF 1 v97) fun v100 =>
 bind2 (some (AObj.cells 2 [(Value.int .i64 (Int.ofNat 0)), (Value.slice none 0 0)] .leaf .fixed, fun b => Value.pointer (some ⟨b, 0, none⟩))) fun o101 f102 => (fun (v103 : Value) (s104 : Sto) =>
 bind2 (storeF s104 2 v103 v99) fun _ s106 =>
 branch v100 (
 bindR (nilF x1) fun v107 =>
 bindR (addOffF 2 v107) fun v108 =>
 bindR (loadF s106 none v108) fun v109 =>
 bindR (addF v109 (Value.int .u64 (Int.ofNat 1))) fun v110 =>
 bindR (nilF x1) fun v111 =>
 bindR (addOffF 2 v111) fun v112 =>
 bind2 (storeF s106 1 v112 v110) fun _ s114 =>
 bindR (loadF s114 (some 2) v103) fun v115 =>
 bind2 (storeF s114 2 v7 v115) fun _ s117 =>
 bindR (loadF s117 (some 2) v7) fun v118 =>
 some (Value.tuple (Array.mk [v118, (Value.bool true), (Value.int .i64 (Int.ofNat 0))]), s117)) (
 J96 x1 v7 s106)) (f102 (Sto.next s98)) ⟨Nat.succ (Sto.next s98), setR (Sto.objs s98) (Sto.next s98) o101⟩) (
 J96 x1 v7 s88)) ⟨Nat.add (Sto.next s47) 0, Sto.objs s47⟩) (
 J75 x1 v7 s47)) ⟨Nat.add (Sto.next s31) 0, Sto.objs s31⟩)) ⟨Nat.add (Sto.next s20) 0, Sto.objs s20⟩) (f18 (Sto.next s10)) ⟨Nat.succ (Sto.next s10), setR (Sto.objs s10) (Sto.next s10) o17⟩)) (f6 (Sto.next s0)) ⟨Nat.succ (Sto.next s0), setR (Sto.objs s0) (Sto.next s0) o5⟩) t2) args
theorem st24 (call : CallF) (lf : Nat) (args : List Value) (s : Sto) : g24 call lf args s = runK k24 call lf args s := by kernel_rfl
/- (*palisade/backend.Block).ask -/
noncomputable def g25 : SFun := fun call _ args s0 =>
 @List.rec Value (fun _ => RR) none (fun x1 t2 _ =>
 @List.rec Value (fun _ => RR) none (fun x3 t4 _ =>
 @List.rec Value (fun _ => RR) none (fun x5 _ _ =>
 bind2 (some (boxV x5)) fun o7 f8 => (fun (v9 : Value) (s10 : Sto) =>
 bind2 (some (AObj.cells 4 [(Value.int .i64 (Int.ofNat 0)), (Value.bool false), (Value.int .i64 (Int.ofNat 0)), (Value.int .i64 (Int.ofNat 0))] .leaf .fixed, fun b => Value.pointer (some ⟨b, 0, none⟩))) fun o11 f12 => (fun (v13 : Value) (s14 : Sto) =>
 bindR (addOffF 1 v9) fun v15 =>
 bindR (loadF s14 none v15) fun v16 =>
 bindR (lenF false v16) fun v17 =>
 bindR (neqF v17 (Value.int .i64 (Int.ofNat 3))) fun v18 =>
 branch v18 (
 bindR ((fillA [(Value.int .i64 (Int.ofNat 0)), (Value.bool false), (Value.int .i64 (Int.ofNat 0)), (Value.int .i64 (Int.ofNat 0))] []).bind fun cs => some (Value.agg cs.toArray)) fun v19 =>
 bind2 (storeF s14 4 v13 v19) fun _ s21 =>
 bindR (loadF s21 (some 4) v13) fun v22 =>
 some (Value.tuple (Array.mk [v22, (Value.int .u8 (Int.ofNat 2))]), s21)) (
 (fun (s23 : Sto) =>
 bindR (addOffF 1 v9) fun v24 =>
 bindR (loadF s23 none v24) fun v25 =>
 bindR (ixSF 3 v25 (Value.int .i64 (Int.ofNat 0))) fun v26 =>
 bindR (loadF s23 (some 3) v26) fun v27 =>
 bindR (addOffF 1 v9) fun v28 =>
 bindR (loadF s23 none v28) fun v29 =>
 bindR (ixSF 3 v29 (Value.int .i64 (Int.ofNat 1))) fun v30 =>
 bindR (loadF s23 (some 3) v30) fun v31 =>
 bindR (addOffF 1 v9) fun v32 =>
 bindR (loadF s23 none v32) fun v33 =>
 bindR (ixSF 3 v33 (Value.int .i64 (Int.ofNat 2))) fun v34 =>
 bindR (loadF s23 (some 3) v34) fun v35 =>
 bind2 (some (AObj.cells 3 [(Value.int .u64 (Int.ofNat 0)), (Value.int .i64 (Int.ofNat 0)), (Value.bool false)] .leaf .fixed, fun b => Value.pointer (some ⟨b, 0, none⟩))) fun o36 f37 => @Option.rec AObj (fun _ => RR) ((fun (v38 : Value) (s39 : Sto) =>
 bind2 (some (AObj.cells 3 [(Value.int .u64 (Int.ofNat 0)), (Value.int .i64 (Int.ofNat 0)), (Value.bool false)] .leaf .fixed, fun b => Value.pointer (some ⟨b, 0, none⟩))) fun o40 f41 => @Option.rec AObj (fun _ => RR) ((fun (v42 : Value) (s43 : Sto) =>
 bind2 (some (AObj.cells 3 [(Value.int .u64 (Int.ofNat 0)), (Value.int .i64 (Int.ofNat 0)), (Value.bool false)] .leaf .fixed, fun b => Value.pointer (some ⟨b, 0, none⟩))) fun o44 f45 => @Option.rec AObj (fun _ => RR) ((fun (v46 : Value) (s47 : Sto) =>
 bind2 (storeF s47 3 v38 v27) fun _ s49 =>
 bindR (loadF s49 (some 3) v34) fun w50 => @Bool.rec (fun _ => RR) none (
 bindR (loadF s49 none v32) fun w51 => @Bool.rec (fun _ => RR) none (
 bindR (loadF s49 (some 3) v30) fun w52 => @Bool.rec (fun _ => RR) none (
 bindR (loadF s49 none v28) fun w53 => @Bool.rec (fun _ => RR) none (
 bind2 (storeF s49 3 v42 v31) fun _ s55 =>
 bindR (loadF s55 (some 3) v34) fun w56 => @Bool.rec (fun _ => RR) none (
 bindR (loadF s55 none v32) fun w57 => @Bool.rec (fun _ => RR) none (
 bind2 (storeF s55 3 v46 v35) fun _ s59 =>
 bindR (addOffF 2 v38) fun v60 =>
 bindR (loadF s59 none v60) fun v61 =>
 bindR (guardF false v61 (addOffF 1 v38) (some undef)) fun v62 =>
 bindR (guardF false v61 (loadF s59 none v62) (some undef)) fun v63 =>
 bindR (guardF false v61 (neqF v63 (Value.int .i64 (Int.ofNat 16))) (some undef)) fun v64 =>
 bindR (pickF (some (Value.bool true)) (some v64) v61) fun v65 =>
 bindR (guardF false v65 (addOffF 1 v42) (some undef)) fun v66 =>
 bindR (guardF false v65 (loadF s59 none v66) (some undef)) fun v67 =>
 bindR (guardF false v65 (neqF v67 (Value.int .i64 (Int.ofNat 256))) (some undef)) fun v68 =>
 bindR (pickF (some (Value.bool true)) (some v68) v65) fun v69 =>
 bindR (guardF false v69 (addOffF 0 v42) (some undef)) fun v70 =>
 bindR (guardF false v69 (loadF s59 none v70) (some undef)) fun v71 =>
 bindR (guardF false v69 (remF v71 (Value.int .u64 (Int.ofNat 256))) (some undef)) fun v72 =>
 bindR (guardF false v69 (neqF v72 (Value.int .u64 (Int.ofNat 0))) (some undef)) fun v73 =>
 bindR (pickF (some (Value.bool true)) (some v73) v69) fun v74 =>
 bindR (guardF false v74 (addOffF 2 v46) (some undef)) fun v75 =>
 bindR (guardF false v74 (loadF s59 none v75) (some undef)) fun v76 =>
 bindR (guardF false v74 (notF v76) (some undef)) fun v77 =>
 bindR (pickF (some (Value.bool true)) (some v77) v74) fun v78 =>
 bindR (guardF false v78 (addOffF 1 v46) (some undef)) fun v79 =>
 bindR (guardF false v78 (loadF s59 none v79) (some undef)) fun v80 =>
 bindR (guardF false v78 (neqF v80 (Value.int .i64 (Int.ofNat 1))) (some undef)) fun v81 =>
 bindR (pickF (some (Value.bool true)) (some v81) v78) fun v82 =>
 branch v82 (
 bindR ((fillA [(Value.int .i64 (Int.ofNat 0)), (Value.bool false), (Value.int .i64 (Int.ofNat 0)), (Value.int .i64 (Int.ofNat 0))] []).bind fun cs => some (Value.agg cs.toArray)) fun v83 =>
 bind2 (storeF s59 4 v13 v83) fun _ s85 =>
 bindR (loadF s85 (some 4) v13) fun v86 =>
 some (Value.tuple (Array.mk [v86, (Value.int .u8 (Int.ofNat 2))]), s85)) (
 bindR (addOffF 0 v38) fun v87 =>
 bindR (loadF s59 none v87) fun v88 =>
 bind2 (invokeF call s59 [(24, 81), (25, 33)] [v88, (Value.int .i64 (Int.ofNat 16))] x3) fun v89 s90 =>
 bindR (extractF 0 v89) fun v91 =>
 bindR (extractF 1 v89) fun v92 =>
 bindR (neqF v92 (Value.int .i64 (Int.ofNat 0))) fun v93 =>
 branch v93 (
 bindR ((fillA [(Value.int .i64 (Int.ofNat 0)), (Value.bool false), (Value.int .i64 (Int.ofNat 0)), (Value.int .i64 (Int.ofNat 0))] []).bind fun cs => some (Value.agg cs.toArray)) fun v94 =>
 bind2 (storeF s90 4 v13 v94) fun _ s96 =>
 bindR (loadF s96 (some 4) v13) fun v97 =>
 some (Value.tuple (Array.mk [v97, (Value.int .u8 (Int.ofNat 2))]), s96)) (
 (fun (s98 : Sto) =>
 bindR (slSV 1 (some (Value.int .i64 (Int.ofNat 8))) none none v91) fun v99 =>
 bind2 (call 47 [v91] s98) fun v100 s101 =>
 bind2 (call 47 [v99] s101) fun v102 s103 =>
 bindR (gtrF v100 (Value.int .u64 (Int.ofNat 1))) fun v104 =>
 bindR (guardF false v104 (addOffF 2 v42) (some undef)) fun v105 =>
 bindR (guardF false v104 (loadF s103 none v105) (some undef)) fun v106 =>
 bindR (guardF false v104 (some v100) (some undef)) fun v107 =>
 bindR (guardF false v104 (eqlF v107 (Value.int .u64 (Int.ofNat 0))) (some undef)) fun v108 =>
 bindR (guardF false v104 (eqvF .bool true false v106 v108) (some undef)) fun v109 =>
 bindR (pickF (some (Value.bool true)) (some v109) v104) fun v110 =>
 branch v110 (
 bindR ((fillA [(Value.int .i64 (Int.ofNat 0)), (Value.bool false), (Value.int .i64 (Int.ofNat 0)), (Value.int .i64 (Int.ofNat 0))] []).bind fun cs => some (Value.agg cs.toArray)) fun v111 =>
 bind2 (storeF s103 4 v13 v111) fun _ s113 =>
 bindR (loadF s113 (some 4) v13) fun v114 =>
 some (Value.tuple (Array.mk [v114, (Value.int .u8 (Int.ofNat 2))]), s113)) (
 bindR (addOffF 0 v42) fun v115 =>
 bindR (loadF s103 none v115) fun v116 =>
 bindR (quoF v116 (Value.int .u64 (Int.ofNat 256))) fun v117 =>
 bindR (convF .i64 v117) fun v118 =>
 bindR (addOffF 2 v42) fun v119 =>
 bindR (loadF s103 none v119) fun v120 =>
 bind2 (invokeF call s103 [(24, 82)] [v118, v120] x3) fun v121 s122 =>
 bindR (extractF 0 v121) fun v123 =>
 bindR (extractF 1 v121) fun v124 =>
 bindR (nilF x1) fun v125 =>
 bindR (addOffF 4 v125) fun v126 =>
 bindR (loadF s122 none v126) fun v127 =>
 bind2 (call 12 [v127, v123] s122) fun v128 s129 =>
 bindR (extractF 0 v128) fun v130 =>
 bindR (extractF 1 v128) fun _ =>
 bindR (extractF 2 v128) fun v132 =>
 bindR (notF v124) fun v133 =>
 bindR (guardF false v133 (some v132) (some undef)) fun v134 =>
 bindR (guardF false v133 (notF v134) (some undef)) fun v135 =>
 bindR (pickF (some (Value.bool true)) (some v135) v133) fun v136 =>
 bindR (guardF false v136 (some v130) (some undef)) fun v137 =>
 bindR (guardF false v136 (some x1) (some undef)) fun v138 =>
 bindR (guardF false v136 (nilF v138) (some undef)) fun v139 =>
 bindR (guardF false v136 (addOffF 5 v139) (some undef)) fun v140 =>
 bindR (guardF false v136 (loadF s129 none v140) (some undef)) fun v141 =>
 bindR (guardF false v136 (neqF v137 v141) (some undef)) fun v142 =>
 bindR (pickF (some (Value.bool true)) (some v142) v136) fun v143 =>
 branch v143 (
 bindR ((fillA [(Value.int .i64 (Int.ofNat 0)), (Value.bool false), (Value.int .i64 (Int.ofNat 0)), (Value.int .i64 (Int.ofNat 0))] []).bind fun cs => some (Value.agg cs.toArray)) fun v144 =>
 bind2 (storeF s129 4 v13 v144) fun _ s146 =>
 bindR (loadF s146 (some 4) v13) fun v147 =>
 some (Value.tuple (Array.mk [v147, (Value.int .u8 (Int.ofNat 2))]), s146)) (
 bindR (nilF x1) fun v148 =>
 bindR (addOffF 3 v148) fun v149 =>
 bindR (loadF s129 none v149) fun v150 =>
 bindR (convF .u64 v150) fun v151 =>
 bindR (geqF v102 v151) fun v152 =>
 branch v152 (
 bindR ((fillA [(Value.int .i64 (Int.ofNat 0)), (Value.bool false), (Value.int .i64 (Int.ofNat 0)), (Value.int .i64 (Int.ofNat 0))] []).bind fun cs => some (Value.agg cs.toArray)) fun v153 =>
 bind2 (storeF s129 4 v13 v153) fun _ s155 =>
 bindR (loadF s155 (some 4) v13) fun v156 =>
 some (Value.tuple (Array.mk [v156, (Value.int .u8 (Int.ofNat 1))]), s155)) (
 (fun (s157 : Sto) =>
 bindR (nilF x1) fun v158 =>
 bindR (addOffF 5 v158) fun v159 =>
 bindR (loadF s157 none v159) fun v160 =>
 bindR (shlF v160 (Value.int .u64 (Int.ofNat 32))) fun v161 =>
 bindR (nilF x1) fun v162 =>
 bindR (addOffF 6 v162) fun v163 =>
 bindR (loadF s157 none v163) fun v164 =>
 bindR (addF v161 v164) fun v165 =>
 bindR (eqlF v100 (Value.int .u64 (Int.ofNat 1))) fun v166 =>
 bindR (nilF x1) fun v167 =>
 bindR (addOffF 2 v167) fun v168 =>
 bindR (loadF s157 none v168) fun v169 =>
 bindR (convF .i64 v102) fun v170 =>
 bindR (addF v169 v170) fun v171 =>
 bindR ((fillA [(Value.int .i64 (Int.ofNat 0)), (Value.bool false), (Value.int .i64 (Int.ofNat 0)), (Value.int .i64 (Int.ofNat 0))] [(0, 1, v165), (1, 1, v166), (2, 1, v171), (3, 1, v123)]).bind fun cs => some (Value.agg cs.toArray)) fun v172 =>
 bind2 (storeF s157 4 v13 v172) fun _ s174 =>
 bindR (loadF s174 (some 4) v13) fun v175 =>
 some (Value.tuple (Array.mk [v175, (Value.int .u8 (Int.ofNat 0))]), s174)) ⟨Nat.add (Sto.next s129) 0, Sto.objs s129⟩)))) ⟨Nat.add (Sto.next s90) 0, Sto.objs s90⟩))) (vEqF w57 v33)) (vEqF w56 v35)) (vEqF w53 v29)) (vEqF w52 v31)) (vEqF w51 v33)) (vEqF w50 v35)) (f45 (Nat.add (Sto.next s14) 2)) ⟨Sto.next s43, setR (Sto.objs s43) (Nat.add (Sto.next s14) 2) o44⟩) (fun _ => none) (getR (Sto.objs s43) (Nat.add (Sto.next s14) 2))) (f41 (Nat.add (Sto.next s14) 1)) ⟨Sto.next s39, setR (Sto.objs s39) (Nat.add (Sto.next s14) 1) o40⟩) (fun _ => none) (getR (Sto.objs s39) (Nat.add (Sto.next s14) 1))) (f37 (Nat.add (Sto.next s14) 0)) ⟨Sto.next s23, setR (Sto.objs s23) (Nat.add (Sto.next s14) 0) o36⟩) (fun _ => none) (getR (Sto.objs s23) (Nat.add (Sto.next s14) 0))) ⟨Nat.add (Sto.next s14) 3, Sto.objs s14⟩)) (f12 (Sto.next s10)) ⟨Nat.succ (Sto.next s10), setR (Sto.objs s10) (Sto.next s10) o11⟩) (f8 (Sto.next s0)) ⟨Nat.succ (Sto.next s0), setR (Sto.objs s0) (Sto.next s0) o7⟩) t4) t2) args
theorem st25 (call : CallF) (lf : Nat) (args : List Value) (s : Sto) : g25 call lf args s = runK k25 call lf args s := by kernel_rfl
/- (*palisade/backend.Block).submit -/
noncomputable def g26 : SFun := fun call _ args s0 =>
 @List.rec Value (fun _ => RR) none (fun x1 t2 _ =>
 @List.rec Value (fun _ => RR) none (fun x3 t4 _ =>
 @List.rec Value (fun _ => RR) none (fun x5 _ _ =>
 bind2 (some (boxV x3)) fun o7 f8 => (fun (v9 : Value) (s10 : Sto) =>
 bind2 (some (boxV x5)) fun o11 f12 => (fun (v13 : Value) (s14 : Sto) =>
 (fun (s15 : Sto) =>
 bindR (nilF x1) fun v16 =>
 bindR (addOffF 4 v16) fun v17 =>
 bindR (loadF s15 none v17) fun v18 =>
 bindR (addOffF 3 v13) fun v19 =>
 bindR (loadF s15 none v19) fun v20 =>
 bindR (nilF x1) fun v21 =>
 bindR (addOffF 5 v21) fun v22 =>
 bindR (loadF s15 none v22) fun v23 =>
 bind2 (call 48 [v18, v20, v23] s15) fun v24 s25 =>
 bindR (neqF v24 (Value.int .i64 (Int.ofNat 0))) fun v26 =>
 branch v26 (
 some ((Value.int .u8 (Int.ofNat 1)), s25)) (
 (fun (s27 : Sto) =>
 bindR (nilF x1) fun v28 =>
 bindR (addOffF 1 v28) fun v29 =>
 bindR (loadF s27 none v29) fun v30 =>
 bindR (loadF s27 (some 4) v13) fun v31 =>
 bind2 (call 49 [v30, v31] s27) fun v32 s33 =>
 bindR (neqF v32 (Value.int .i64 (Int.ofNat 0))) fun v34 =>
 branch v34 (
 (fun (s35 : Sto) =>
 bindR (nilF x1) fun v36 =>
 bindR (addOffF 4 v36) fun v37 =>
 bindR (loadF s35 none v37) fun v38 =>
 bindR (addOffF 3 v13) fun v39 =>
 bindR (loadF s35 none v39) fun v40 =>
 bindR (nilF x1) fun v41 =>
 bindR (addOffF 5 v41) fun v42 =>
 bindR (loadF s35 none v42) fun v43 =>
 bind2 (call 14 [v38, v40, v43] s35) fun _ s45 =>
 some ((Value.int .u8 (Int.ofNat 1)), s45)) ⟨Nat.add (Sto.next s33) 0, Sto.objs s33⟩) (
 (fun (s46 : Sto) =>
 bindR (nilF x1) fun v47 =>
 bindR (addOffF 7 v47) fun v48 =>
 bindR (loadF s46 none v48) fun v49 =>
 bindR (addOffF 0 v13) fun v50 =>
 bindR (loadF s46 none v50) fun v51 =>
 bindR (loadF s46 (some 2) v9) fun v52 =>
 bindR (addOffF 3 v13) fun v53 =>
 bindR (loadF s46 none v53) fun v54 =>
 bindR (addOffF 1 v13) fun v55 =>
 bindR (loadF s46 none v55) fun v56 =>
 bindR (notF v56) fun v57 =>
 bindR ((fillA [(Value.int .i64 (Int.ofNat 0)), (Value.slice none 0 0), (Value.int .i64 (Int.ofNat 0)), (Value.bool false)] [(0, 2, v52), (2, 1, v54), (3, 1, v57)]).bind fun cs => some (Value.agg cs.toArray)) fun v58 =>
 bind2 (mapUpdateV s46 (false, [.i]) v49 v51 v58) fun _ s60 =>
 bindR (nilF x1) fun v61 =>
 bindR (addOffF 6 v61) fun v62 =>
 bindR (loadF s60 none v62) fun v63 =>
 bindR (addF v63 (Value.int .i64 (Int.ofNat 1))) fun v64 =>
 bindR (nilF x1) fun v65 =>
 bindR (addOffF 6 v65) fun v66 =>
 bind2 (storeF s60 1 v66 v64) fun _ s68 =>
 some ((Value.int .u8 (Int.ofNat 0)), s68)) ⟨Nat.add (Sto.next s33) 0, Sto.objs s33⟩)) ⟨Nat.add (Sto.next s25) 0, Sto.objs s25⟩)) ⟨Nat.add (Sto.next s14) 0, Sto.objs s14⟩) (f12 (Sto.next s10)) ⟨Nat.succ (Sto.next s10), setR (Sto.objs s10) (Sto.next s10) o11⟩) (f8 (Sto.next s0)) ⟨Nat.succ (Sto.next s0), setR (Sto.objs s0) (Sto.next s0) o7⟩) t4) t2) args
theorem st26 (call : CallF) (lf : Nat) (args : List Value) (s : Sto) : g26 call lf args s = runK k26 call lf args s := by kernel_rfl
/- (*palisade/ring.Ring).Push -/
noncomputable def g27 : SFun := fun call lf args s0 =>
 @List.rec Value (fun _ => RR) none (fun x1 t2 _ =>
 @List.rec Value (fun _ => RR) none (fun x3 t4 _ =>
 @List.rec Value (fun _ => RR) none (fun x5 t6 _ =>
 @List.rec Value (fun _ => RR) none (fun x7 _ _ =>
 bind2 (call 44 [x1, x3] s0) fun v9 s10 =>
 joinK (fun (x11 : Value) (x12 : Value) (x13 : Value) (x14 : Value) (s15 : Sto) =>
 (fun (s16 : Sto) =>
 bindR (nilF x11) fun v17 =>
 bindR (addOffF 0 v17) fun v18 =>
 bindR (loadF s16 none v18) fun v19 =>
 bindR (nilF x11) fun v20 =>
 bindR (addOffF 1 v20) fun v21 =>
 bindR (loadF s16 none v21) fun v22 =>
 bindR (mulF (Value.int .u64 (Int.ofNat 40)) v22) fun v23 =>
 bindR (addF v19 v23) fun v24 =>
 bindR (addF v24 (Value.int .u64 (Int.ofNat 8))) fun v25 =>
 (fun (s26 : Sto) =>
 bindR (addF v25 (Value.int .u64 (Int.ofNat 8))) fun v27 =>
 bindR (nilF x11) fun v28 =>
 bindR (addOffF 3 v28) fun v29 =>
 bindR (loadF s26 none v29) fun v30 =>
 bindR (nilF x11) fun v31 =>
 bindR (addOffF 1 v31) fun v32 =>
 bindR (loadF s26 none v32) fun v33 =>
 bindR (remF v30 v33) fun v34 =>
 bindR (mulF (Value.int .u64 (Int.ofNat 16)) v34) fun v35 =>
 bindR (addF v27 v35) fun v36 =>
 bindR (convF .u64 x13) fun v37 =>
 bindR ((fillA [(Value.int .u64 (Int.ofNat 0)), (Value.int .u64 (Int.ofNat 0))] [(0, 1, v36), (1, 1, v37)]).bind fun cs => some (Value.agg cs.toArray)) fun v38 =>
 bindR (addF v36 (Value.int .u64 (Int.ofNat 8))) fun v39 =>
 bindR (convF .u64 x14) fun v40 =>
 bindR ((fillA [(Value.int .u64 (Int.ofNat 0)), (Value.int .u64 (Int.ofNat 0))] [(0, 1, v39), (1, 1, v40)]).bind fun cs => some (Value.agg cs.toArray)) fun v41 =>
 bindR (nilF x11) fun v42 =>
 bindR (addOffF 3 v42) fun v43 =>
 bindR (loadF s26 none v43) fun v44 =>
 bindR (addF v44 (Value.int .u64 (Int.ofNat 1))) fun v45 =>
 bindR ((fillA [(Value.int .u64 (Int.ofNat 0)), (Value.int .u64 (Int.ofNat 0))] [(0, 1, v25), (1, 1, v45)]).bind fun cs => some (Value.agg cs.toArray)) fun v46 =>
 bind2 (mkLitV 3 2 [(Value.int .u64 (Int.ofNat 0)), (Value.int .u64 (Int.ofNat 0))] [(0, 2, v38), (2, 2, v41), (4, 2, v46)]) fun o47 f48 => (fun (v49 : Value) (s50 : Sto) =>
 bindR (lenF false v49) fun v51 =>
 joinK (fun (x52 : Value) (s53 : Sto) =>
 bindR (nilF x52) fun v54 =>
 bindR (addOffF 3 v54) fun v55 =>
 bindR (loadF s53 none v55) fun v56 =>
 bindR (addF v56 (Value.int .u64 (Int.ofNat 1))) fun v57 =>
 bindR (nilF x52) fun v58 =>
 bindR (addOffF 3 v58) fun v59 =>
 bind2 (storeF s53 1 v59 v57) fun _ s61 =>
 some ((Value.int .i64 (Int.ofNat 0)), s61)) fun (J62 : Value → Sto → RR) =>
 (@Nat.rec (fun _ => Value → Value → Value → Value → Value → Sto → RR) (fun _ _ _ _ _ _ => none) (fun _ J63 => fun (x64 : Value) (x65 : Value) (x66 : Value) (x67 : Value) (x68 : Value) (s69 : Sto) =>
 bindR (lssF x68 x67) fun v70 =>
 branch v70 (
 joinK (fun (x71 : Value) (x72 : Value) (x73 : Value) (x74 : Value) (x75 : Value) (s76 : Sto) =>
 bindR (addF x75 (Value.int .i64 (Int.ofNat 1))) fun v77 =>
 J63 x71 x72 x73 x74 v77 s76) fun (J78 : Value → Value → Value → Value → Value → Sto → RR) =>
 bindR (ixSF 2 x66 x68) fun v79 =>
 bindR (loadF s69 (some 2) v79) fun v80 =>
 bind2 (some (AObj.cells 2 [(Value.int .u64 (Int.ofNat 0)), (Value.int .u64 (Int.ofNat 0))] .leaf .fixed, fun b => Value.pointer (some ⟨b, 0, none⟩))) fun o81 f82 => (fun (v83 : Value) (s84 : Sto) =>
 bind2 (storeF s84 2 v83 v80) fun _ s86 =>
 bindR (addOffF 0 v83) fun v87 =>
 bindR (loadF s86 none v87) fun v88 =>
 bindR (addOffF 1 v83) fun v89 =>
 bindR (loadF s86 none v89) fun v90 =>
 bind2 (invokeF call s86 [(24, 22), (25, 43)] [v88, (Value.int .i64 (Int.ofNat 8)), v90] x65) fun v91 s92 =>
 bindR (neqF v91 (Value.int .i64 (Int.ofNat 0))) fun v93 =>
 branch v93 (
 bindR (nilF x64) fun v94 =>
 bindR (addOffF 4 v94) fun v95 =>
 bind2 (storeF s92 1 v95 (Value.bool true)) fun _ s97 =>
 some ((Value.int .i64 (Int.ofNat 22)), s97)) (
 J78 x64 x65 x66 x67 x68 s92)) (f82 (Sto.next s69)) ⟨Nat.succ (Sto.next s69), setR (Sto.objs s69) (Sto.next s69) o81⟩) (
 J62 x64 s69)) lf) x11 x12 v49 v51 (Value.int .i64 (Int.ofNat 0)) s50) (f48 (Sto.next s26)) ⟨Nat.succ (Sto.next s26), setR (Sto.objs s26) (Sto.next s26) o47⟩) ⟨Nat.add (Sto.next s16) 0, Sto.objs s16⟩) ⟨Nat.add (Sto.next s15) 0, Sto.objs s15⟩) fun (J98 : Value → Value → Value → Value → Sto → RR) =>
 bindR (neqF v9 (Value.int .i64 (Int.ofNat 0))) fun v99 =>
 branch v99 (
 some (v9, s10)) (
 bindR (lssF x5 (Value.int .i64 (Int.ofNat 0))) fun v100 =>
 bindR (guardF false v100 (some x5) (some undef)) fun v101 =>
 bindR (guardF false v100 (convF .u64 v101) (some undef)) fun v102 =>
 bindR (guardF false v100 (some x1) (some undef)) fun v103 =>
 bindR (guardF false v100 (nilF v103) (some undef)) fun v104 =>
 bindR (guardF false v100 (addOffF 1 v104) (some undef)) fun v105 =>
 bindR (guardF false v100 (loadF s10 none v105) (some undef)) fun v106 =>
 bindR (guardF false v100 (geqF v102 v106) (some undef)) fun v107 =>
 bindR (pickF (some (Value.bool true)) (some v107) v100) fun v108 =>
 bindR (guardF false v108 (some x7) (some undef)) fun v109 =>
 bindR (guardF false v108 (lssF v109 (Value.int .i64 (Int.ofNat 0))) (some undef)) fun v110 =>
 bindR (pickF (some (Value.bool true)) (some v110) v108) fun v111 =>
 branch v111 (
 some ((Value.int .i64 (Int.ofNat 2)), s10)) (
 (fun (s112 : Sto) =>
 bindR (nilF x1) fun v113 =>
 bindR (addOffF 3 v113) fun v114 =>
 bindR (loadF s112 none v114) fun v115 =>
 bindR (nilF x1) fun v116 =>
 bindR (addOffF 2 v116) fun v117 =>
 bindR (loadF s112 none v117) fun v118 =>
 bindR (eqlF v115 v118) fun v119 =>
 branch v119 (
 some ((Value.int .i64 (Int.ofNat 21)), s112)) (
 J98 x1 x3 x5 x7 s112)) ⟨Nat.add (Sto.next s10) 0, Sto.objs s10⟩))) t6) t4) t2) args
theorem st27 (call : CallF) (lf : Nat) (args : List Value) (s : Sto) : g27 call lf args s = runK k27 call lf args s := by kernel_rfl
/- palisade/backend.tell -/
noncomputable def g28 : SFun := fun call _ args s0 =>
 @List.rec Value (fun _ => RR) none (fun x1 t2 _ =>
 @List.rec Value (fun _ => RR) none (fun x3 t4 _ =>
 @List.rec Value (fun _ => RR) none (fun x5 _ _ =>
 bind2 (some (boxV x3)) fun o7 f8 => (fun (v9 : Value) (s10 : Sto) =>
 bindR (addOffF 1 v9) fun v11 =>
 bindR (loadF s10 none v11) fun v12 =>
 bindR (addOffF 1 v9) fun v13 =>
 bindR (loadF s10 none v13) fun v14 =>
 bindR (lenF false v14) fun v15 =>
 bindR (subF v15 (Value.int .i64 (Int.ofNat 1))) fun v16 =>
 bindR (ixSF 3 v12 v16) fun v17 =>
 bindR (loadF s10 (some 3) v17) fun v18 =>
 bind2 (some (AObj.cells 3 [(Value.int .u64 (Int.ofNat 0)), (Value.int .i64 (Int.ofNat 0)), (Value.bool false)] .leaf .fixed, fun b => Value.pointer (some ⟨b, 0, none⟩))) fun o19 f20 => (fun (v21 : Value) (s22 : Sto) =>
 bind2 (storeF s22 3 v21 v18) fun _ s24 =>
 bindR (addOffF 2 v21) fun v25 =>
 bindR (loadF s24 none v25) fun v26 =>
 bindR (guardF true v26 (some x1) (some undef)) fun v27 =>
 bindR (guardF true v26 (addOffF 0 v21) (some undef)) fun v28 =>
 bindR (guardF true v26 (loadF s24 none v28) (some undef)) fun v29 =>
 bindR (guardF true v26 (some x5) (some undef)) fun v30 =>
 bind2 (guardF true v26 (bind2 (mkLitV 1 1 [(Value.int .u8 (Int.ofNat 0))] [(0, 1, v30)]) fun o f => some (f (Sto.next s24), ⟨Nat.succ (Sto.next s24), setR (Sto.objs s24) (Sto.next s24) o⟩)) (some (undef, s24))) fun v31 s32 =>
 bind2 (guardF true v26 (invokeF call s32 [(24, 84), (25, 36), (27, 34)] [v29, v31] v27) (some (undef, s32))) fun v33 s34 =>
 bindR (guardF true v26 (eqlF v33 (Value.int .i64 (Int.ofNat 0))) (some undef)) fun v35 =>
 bindR (pickF (some v35) (some (Value.bool false)) v26) fun v36 =>
 branch v36 (
 some ((Value.int .i64 (Int.ofNat 1)), s34)) (
 some ((Value.int .i64 (Int.ofNat 0)), s34))) (f20 (Sto.next s10)) ⟨Nat.succ (Sto.next s10), setR (Sto.objs s10) (Sto.next s10) o19⟩) (f8 (Sto.next s0)) ⟨Nat.succ (Sto.next s0), setR (Sto.objs s0) (Sto.next s0) o7⟩) t4) t2) args
theorem st28 (call : CallF) (lf : Nat) (args : List Value) (s : Sto) : g28 call lf args s = runK k28 call lf args s := by kernel_rfl
/- (*palisade/disk.Disk).none -/
noncomputable def g29 : SFun := fun _ _ args s0 =>
 @List.rec Value (fun _ => RR) none (fun x1 _ _ =>
 bindR (eqvF .ptr false true x1 (Value.pointer none)) fun v3 =>
 bindR (guardF false v3 (some x1) (some undef)) fun v4 =>
 bindR (guardF false v3 (nilF v4) (some undef)) fun v5 =>
 bindR (guardF false v3 (addOffF 1 v5) (some undef)) fun v6 =>
 bindR (guardF false v3 (loadF s0 none v6) (some undef)) fun v7 =>
 bindR (guardF false v3 (eqvF .map false true v7 (Value.map none)) (some undef)) fun v8 =>
 bindR (pickF (some (Value.bool true)) (some v8) v3) fun v9 =>
 some (v9, s0)) args
theorem st29 (call : CallF) (lf : Nat) (args : List Value) (s : Sto) : g29 call lf args s = runK k29 call lf args s := by kernel_rfl
/- (*palisade/mem.Memory).Frames -/
noncomputable def g30 : SFun := fun call _ args s0 =>
 @List.rec Value (fun _ => RR) none (fun x1 _ _ =>
 bind2 (call 50 [x1] s0) fun v3 s4 =>
 branch v3 (
 some ((Value.int .i64 (Int.ofNat 0)), s4)) (
 bindR (nilF x1) fun v5 =>
 bindR (addOffF 0 v5) fun v6 =>
 bindR (loadF s4 none v6) fun v7 =>
 bindR (lenF false v7) fun v8 =>
 bindR (quoF v8 (Value.int .i64 (Int.ofNat 256))) fun v9 =>
 some (v9, s4))) args
theorem st30 (call : CallF) (lf : Nat) (args : List Value) (s : Sto) : g30 call lf args s = runK k30 call lf args s := by kernel_rfl
/- slices.DeleteFunc[[]palisade/disk.Request,palisade/disk.Request] -/
noncomputable def g31 : SFun := fun call lf args s0 =>
 @List.rec Value (fun _ => RR) none (fun x1 t2 _ =>
 @List.rec Value (fun _ => RR) none (fun x3 _ _ =>
 bind2 (call 51 [x1, x3] s0) fun v5 s6 =>
 bindR (eqlF v5 (Value.int .i64 (Int.negSucc 0))) fun v7 =>
 branch v7 (
 some (x1, s6)) (
 bindR (addF v5 (Value.int .i64 (Int.ofNat 1))) fun v8 =>
 joinK (fun (x9 : Value) (x10 : Value) (s11 : Sto) =>
 bindR (slSV 4 (some x10) none none x9) fun v12 =>
 bind2 (clearV s11 [(Value.int .i64 (Int.ofNat 0)), (Value.bool false), (Value.int .i64 (Int.ofNat 0)), (Value.int .i64 (Int.ofNat 0))] v12) fun _ s14 =>
 bindR (slSV 4 none (some x10) none x9) fun v15 =>
 some (v15, s14)) fun (J16 : Value → Value → Sto → RR) =>
 (@Nat.rec (fun _ => Value → Value → Value → Value → Sto → RR) (fun _ _ _ _ _ => none) (fun _ J17 => fun (x18 : Value) (x19 : Value) (x20 : Value) (x21 : Value) (s22 : Sto) =>
 bindR (lenF false x18) fun v23 =>
 bindR (lssF x21 v23) fun v24 =>
 branch v24 (
 joinK (fun (x25 : Value) (x26 : Value) (x27 : Value) (x28 : Value) (s29 : Sto) =>
 bindR (addF x28 (Value.int .i64 (Int.ofNat 1))) fun v30 =>
 J17 x25 x26 x27 v30 s29) fun (J31 : Value → Value → Value → Value → Sto → RR) =>
 bindR (ixSF 4 x18 x21) fun v32 =>
 bindR (loadF s22 (some 4) v32) fun v33 =>
 bind2 (some (AObj.cells 4 [(Value.int .i64 (Int.ofNat 0)), (Value.bool false), (Value.int .i64 (Int.ofNat 0)), (Value.int .i64 (Int.ofNat 0))] .leaf .fixed, fun b => Value.pointer (some ⟨b, 0, none⟩))) fun o34 f35 => (fun (v36 : Value) (s37 : Sto) =>
 bind2 (storeF s37 4 v36 v33) fun _ s39 =>
 bindR (loadF s39 (some 4) v36) fun v40 =>
 bind2 (callVV call s39 [v40] x19) fun v41 s42 =>
 bindR (notF v41) fun v43 =>
 joinK (fun (x44 : Value) (x45 : Value) (x46 : Value) (x47 : Value) (s48 : Sto) =>
 J31 x44 x45 x46 x47 s48) fun (J49 : Value → Value → Value → Value → Sto → RR) => branch v43 (
 bindR (loadF s42 (some 4) v36) fun v50 =>
 bindR (ixSF 4 x18 x20) fun v51 =>
 bind2 (storeF s42 4 v51 v50) fun _ s53 =>
 bindR (addF x20 (Value.int .i64 (Int.ofNat 1))) fun v54 =>
 J49 x18 x19 v54 x21 s53) (
 J49 x18 x19 x20 x21 s42)) (f35 (Sto.next s22)) ⟨Nat.succ (Sto.next s22), setR (Sto.objs s22) (Sto.next s22) o34⟩) (
 J16 x18 x20 s22)) lf) x1 x3 v5 v8 s6)) t2) args
theorem st31 (call : CallF) (lf : Nat) (args : List Value) (s : Sto) : g31 call lf args s = runK k31 call lf args s := by kernel_rfl
/- (*palisade/disk.Disk).Complete$1 -/
noncomputable def g32 : SFun := fun _ _ args s0 =>
 @List.rec Value (fun _ => RR) none (fun x1 t2 _ =>
 @List.rec Value (fun _ => RR) none (fun x3 _ _ =>
 bind2 (some (boxV x1)) fun o5 f6 => (fun (v7 : Value) (s8 : Sto) =>
 bindR (loadF s8 (some 4) v7) fun v9 =>
 bindR (loadF s8 (some 4) x3) fun v10 =>
 bindR (eqFlatV false [.i, .b, .i, .i] v9 v10) fun v11 =>
 some (v11, s8)) (f6 (Sto.next s0)) ⟨Nat.succ (Sto.next s0), setR (Sto.objs s0) (Sto.next s0) o5⟩) t2) args
theorem st32 (call : CallF) (lf : Nat) (args : List Value) (s : Sto) : g32 call lf args s = runK k32 call lf args s := by kernel_rfl
/- (*palisade/mem.Memory).Bytes -/
noncomputable def g33 : SFun := fun call _ args s0 =>
 @List.rec Value (fun _ => RR) none (fun x1 t2 _ =>
 @List.rec Value (fun _ => RR) none (fun x3 t4 _ =>
 @List.rec Value (fun _ => RR) none (fun x5 _ _ =>
 bind2 (call 52 [x1, x3, x5] s0) fun v7 s8 =>
 bindR (extractF 0 v7) fun v9 =>
 bindR (extractF 1 v7) fun v10 =>
 bind2 (call 53 [v9] s8) fun v11 s12 =>
 some (Value.tuple (Array.mk [v11, v10]), s12)) t4) t2) args
theorem st33 (call : CallF) (lf : Nat) (args : List Value) (s : Sto) : g33 call lf args s = runK k33 call lf args s := by kernel_rfl
/- (*palisade/disk.Disk).Put -/
noncomputable def g34 : SFun := fun call _ args s0 =>
 @List.rec Value (fun _ => RR) none (fun x1 t2 _ =>
 @List.rec Value (fun _ => RR) none (fun x3 t4 _ =>
 @List.rec Value (fun _ => RR) none (fun x5 _ _ =>
 bind2 (call 54 [x1, x3] s0) fun v7 s8 =>
 joinK (fun (x9 : Value) (x10 : Value) (x11 : Value) (s12 : Sto) =>
 bind2 (call 55 [x11, (Value.func (.func 56) #[] #[])] s12) fun v13 s14 =>
 bindR (notF v13) fun v15 =>
 branch v15 (
 bindR (nilF x9) fun v16 =>
 bindR (addOffF 1 v16) fun v17 =>
 bindR (loadF s14 none v17) fun v18 =>
 bind2 (deleteV s14 (false, [.i]) v18 x10) fun _ s20 =>
 some ((Value.int .i64 (Int.ofNat 0)), s20)) (
 (fun (s21 : Sto) =>
 bindR (nilF x9) fun v22 =>
 bindR (addOffF 1 v22) fun v23 =>
 bindR (loadF s21 none v23) fun v24 =>
 bind2 (call 57 [x11] s21) fun v25 s26 =>
 bindR (loadF s26 none v23) fun w27 => @Bool.rec (fun _ => RR) none (
 bind2 (mapUpdateV s26 (false, [.i]) v24 x10 v25) fun _ s29 =>
 some ((Value.int .i64 (Int.ofNat 0)), s29)) (vEqF w27 v24)) ⟨Nat.add (Sto.next s14) 0, Sto.objs s14⟩)) fun (J30 : Value → Value → Value → Sto → RR) =>
 bindR (neqF v7 (Value.int .i64 (Int.ofNat 0))) fun v31 =>
 branch v31 (
 some (v7, s8)) (
 bindR (lenF false x5) fun v32 =>
 bindR (neqF v32 (Value.int .i64 (Int.ofNat 256))) fun v33 =>
 branch v33 (
 some ((Value.int .i64 (Int.ofNat 2)), s8)) (
 J30 x1 x3 x5 s8))) t4) t2) args
theorem st34 (call : CallF) (lf : Nat) (args : List Value) (s : Sto) : g34 call lf args s = runK k34 call lf args s := by kernel_rfl
/- (*palisade/disk.Disk).Block -/
noncomputable def g35 : SFun := fun call _ args s0 =>
 @List.rec Value (fun _ => RR) none (fun x1 t2 _ =>
 @List.rec Value (fun _ => RR) none (fun x3 _ _ =>
 bind2 (call 54 [x1, x3] s0) fun v5 s6 =>
 bindR (neqF v5 (Value.int .i64 (Int.ofNat 0))) fun v7 =>
 branch v7 (
 some (Value.tuple (Array.mk [(Value.slice none 0 0), v5]), s6)) (
 bind2 (makeSliceV [(Value.int .u8 (Int.ofNat 0))] 1 (Value.int .i64 (Int.ofNat 256)) (Value.int .i64 (Int.ofNat 256))) fun o8 f9 => (fun (v10 : Value) (s11 : Sto) =>
 bindR (nilF x1) fun v12 =>
 bindR (addOffF 1 v12) fun v13 =>
 bindR (loadF s11 none v13) fun v14 =>
 bindR (lookupV s11 (false, [.i]) (Value.slice none 0 0) false v14 x3) fun v15 =>
 bind2 (copyV s11 1 v10 v15) fun _ s17 =>
 some (Value.tuple (Array.mk [v10, (Value.int .i64 (Int.ofNat 0))]), s17)) (f9 (Sto.next s6)) ⟨Nat.succ (Sto.next s6), setR (Sto.objs s6) (Sto.next s6) o8⟩)) t2) args
theorem st35 (call : CallF) (lf : Nat) (args : List Value) (s : Sto) : g35 call lf args s = runK k35 call lf args s := by kernel_rfl
/- (*palisade/mem.Memory).Put -/
noncomputable def g36 : SFun := fun call _ args s0 =>
 @List.rec Value (fun _ => RR) none (fun x1 t2 _ =>
 @List.rec Value (fun _ => RR) none (fun x3 t4 _ =>
 @List.rec Value (fun _ => RR) none (fun x5 _ _ =>
 bindR (lenF false x5) fun v7 =>
 bind2 (call 52 [x1, x3, v7] s0) fun v8 s9 =>
 bindR (extractF 0 v8) fun v10 =>
 bindR (extractF 1 v8) fun v11 =>
 bindR (eqlF v11 (Value.int .i64 (Int.ofNat 0))) fun v12 =>
 joinK (fun (x13 : Value) (s14 : Sto) =>
 some (x13, s14)) fun (J15 : Value → Sto → RR) => branch v12 (
 bind2 (copyV s9 1 v10 x5) fun _ s17 =>
 J15 v11 s17) (
 J15 v11 s9)) t4) t2) args
theorem st36 (call : CallF) (lf : Nat) (args : List Value) (s : Sto) : g36 call lf args s = runK k36 call lf args s := by kernel_rfl
/- (*palisade/frames.Frames).none -/
noncomputable def g37 : SFun := fun _ _ args s0 =>
 @List.rec Value (fun _ => RR) none (fun x1 _ _ =>
 bindR (eqvF .ptr false true x1 (Value.pointer none)) fun v3 =>
 bindR (guardF false v3 (some x1) (some undef)) fun v4 =>
 bindR (guardF false v3 (nilF v4) (some undef)) fun v5 =>
 bindR (guardF false v3 (addOffF 2 v5) (some undef)) fun v6 =>
 bindR (guardF false v3 (loadF s0 none v6) (some undef)) fun v7 =>
 bindR (guardF false v3 (eqvF .map false true v7 (Value.map none)) (some undef)) fun v8 =>
 bindR (pickF (some (Value.bool true)) (some v8) v3) fun v9 =>
 some (v9, s0)) args
theorem st37 (call : CallF) (lf : Nat) (args : List Value) (s : Sto) : g37 call lf args s = runK k37 call lf args s := by kernel_rfl
/- (*palisade/frames.Frames).wrong -/
noncomputable def g38 : SFun := fun call _ args s0 =>
 @List.rec Value (fun _ => RR) none (fun x1 t2 _ =>
 @List.rec Value (fun _ => RR) none (fun x3 t4 _ =>
 @List.rec Value (fun _ => RR) none (fun x5 _ _ =>
 bind2 (call 40 [x1, x5] s0) fun v7 s8 =>
 joinK (fun  (s9 : Sto) =>
 some ((Value.int .i64 (Int.ofNat 0)), s9)) fun (J10 : Sto → RR) =>
 bindR (neqF v7 (Value.int .i64 (Int.ofNat 0))) fun v11 =>
 branch v11 (
 some (v7, s8)) (
 bindR (lssF x3 (Value.int .i64 (Int.ofNat 0))) fun v12 =>
 bindR (guardF false v12 (some x3) (some undef)) fun v13 =>
 bindR (guardF false v12 (some x1) (some undef)) fun v14 =>
 bindR (guardF false v12 (nilF v14) (some undef)) fun v15 =>
 bindR (guardF false v12 (addOffF 0 v15) (some undef)) fun v16 =>
 bindR (guardF false v12 (loadF s8 none v16) (some undef)) fun v17 =>
 bindR (guardF false v12 (geqF v13 v17) (some undef)) fun v18 =>
 bindR (pickF (some (Value.bool true)) (some v18) v12) fun v19 =>
 branch v19 (
 some ((Value.int .i64 (Int.ofNat 2)), s8)) (
 (fun (s20 : Sto) =>
 bindR (nilF x1) fun v21 =>
 bindR (addOffF 2 v21) fun v22 =>
 bindR (loadF s20 none v22) fun v23 =>
 bindR (lookupV s20 (false, [.i]) (Value.int .i64 (Int.ofNat 0)) false v23 x3) fun v24 =>
 bindR (eqlF v24 (Value.int .i64 (Int.ofNat 0))) fun v25 =>
 bindR (guardF false v25 (some x1) (some undef)) fun v26 =>
 bindR (guardF false v25 (nilF v26) (some undef)) fun v27 =>
 bindR (guardF false v25 (addOffF 3 v27) (some undef)) fun v28 =>
 bindR (guardF false v25 (loadF s20 none v28) (some undef)) fun v29 =>
 bindR (guardF false v25 (some x3) (some undef)) fun v30 =>
 bindR (guardF false v25 (lookupV s20 (false, [.i]) (Value.int .i64 (Int.ofNat 0)) false v29 v30) (some undef)) fun v31 =>
 bindR (guardF false v25 (some x5) (some undef)) fun v32 =>
 bindR (guardF false v25 (ixSF 1 v32 (Value.int .i64 (Int.ofNat 0))) (some undef)) fun v33 =>
 bindR (guardF false v25 (loadF s20 none v33) (some undef)) fun v34 =>
 bindR (guardF false v25 (neqF v31 v34) (some undef)) fun v35 =>
 bindR (pickF (some (Value.bool true)) (some v35) v25) fun v36 =>
 branch v36 (
 some ((Value.int .i64 (Int.ofNat 15)), s20)) (
 J10  s20)) ⟨Nat.add (Sto.next s8) 0, Sto.objs s8⟩))) t4) t2) args
theorem st38 (call : CallF) (lf : Nat) (args : List Value) (s : Sto) : g38 call lf args s = runK k38 call lf args s := by kernel_rfl
/- palisade/frames.isOwner -/
noncomputable def g39 : SFun := fun _ _ args s0 =>
 @List.rec Value (fun _ => RR) none (fun x1 _ _ =>
 bindR (geqF x1 (Value.int .i64 (Int.ofNat 0))) fun v3 =>
 bindR (guardF true v3 (some x1) (some undef)) fun v4 =>
 bindR (guardF true v3 (lssF v4 (Value.int .i64 (Int.ofNat 17))) (some undef)) fun v5 =>
 bindR (pickF (some v5) (some (Value.bool false)) v3) fun v6 =>
 some (v6, s0)) args
theorem st39 (call : CallF) (lf : Nat) (args : List Value) (s : Sto) : g39 call lf args s = runK k39 call lf args s := by kernel_rfl
/- (*palisade/frames.Frames).owned -/
noncomputable def g40 : SFun := fun call lf args s0 =>
 @List.rec Value (fun _ => RR) none (fun x1 t2 _ =>
 @List.rec Value (fun _ => RR) none (fun x3 _ _ =>
 bind2 (call 37 [x1] s0) fun v5 s6 =>
 branch v5 (
 some ((Value.int .i64 (Int.ofNat 1)), s6)) (
 bindR (lenF false x3) fun v7 =>
 joinK (fun  (s8 : Sto) =>
 some ((Value.int .i64 (Int.ofNat 0)), s8)) fun (J9 : Sto → RR) =>
 (@Nat.rec (fun _ => Value → Value → Value → Sto → RR) (fun _ _ _ _ => none) (fun _ J10 => fun (x11 : Value) (x12 : Value) (x13 : Value) (s14 : Sto) =>
 bindR (lssF x13 x12) fun v15 =>
 branch v15 (
 joinK (fun (x16 : Value) (x17 : Value) (x18 : Value) (s19 : Sto) =>
 bindR (addF x18 (Value.int .i64 (Int.ofNat 1))) fun v20 =>
 J10 x16 x17 v20 s19) fun (J21 : Value → Value → Value → Sto → RR) =>
 bindR (ixSF 1 x11 x13) fun v22 =>
 bindR (loadF s14 none v22) fun v23 =>
 bind2 (call 39 [v23] s14) fun v24 s25 =>
 bindR (notF v24) fun v26 =>
 branch v26 (
 some ((Value.int .i64 (Int.ofNat 2)), s25)) (
 J21 x11 x12 x13 s25)) (
 J9  s14)) lf) x3 v7 (Value.int .i64 (Int.ofNat 0)) s6)) t2) args
theorem st40 (call : CallF) (lf : Nat) (args : List Value) (s : Sto) : g40 call lf args s = runK k40 call lf args s := by kernel_rfl
/- palisade/ring.right -/
noncomputable def g41 : SFun := fun _ _ args s0 =>
 @List.rec Value (fun _ => RR) none (fun x1 _ _ =>
 bindR (geqF x1 (Value.int .i64 (Int.ofNat 1))) fun v3 =>
 bindR (guardF true v3 (some x1) (some undef)) fun v4 =>
 bindR (guardF true v3 (leqF v4 (Value.int .i64 (Int.ofNat 64))) (some undef)) fun v5 =>
 bindR (pickF (some v5) (some (Value.bool false)) v3) fun v6 =>
 bindR (guardF true v6 (some x1) (some undef)) fun v7 =>
 bindR (guardF true v6 (some x1) (some undef)) fun v8 =>
 bindR (guardF true v6 (subF v8 (Value.int .i64 (Int.ofNat 1))) (some undef)) fun v9 =>
 bindR (guardF true v6 (andF v7 v9) (some undef)) fun v10 =>
 bindR (guardF true v6 (eqlF v10 (Value.int .i64 (Int.ofNat 0))) (some undef)) fun v11 =>
 bindR (pickF (some v11) (some (Value.bool false)) v6) fun v12 =>
 some (v12, s0)) args
theorem st41 (call : CallF) (lf : Nat) (args : List Value) (s : Sto) : g41 call lf args s = runK k41 call lf args s := by kernel_rfl
/- (*palisade/disk.Disk).Blocks -/
noncomputable def g42 : SFun := fun call _ args s0 =>
 @List.rec Value (fun _ => RR) none (fun x1 _ _ =>
 bind2 (call 29 [x1] s0) fun v3 s4 =>
 branch v3 (
 some ((Value.int .i64 (Int.ofNat 0)), s4)) (
 bindR (nilF x1) fun v5 =>
 bindR (addOffF 0 v5) fun v6 =>
 bindR (loadF s4 none v6) fun v7 =>
 some (v7, s4))) args
theorem st42 (call : CallF) (lf : Nat) (args : List Value) (s : Sto) : g42 call lf args s = runK k42 call lf args s := by kernel_rfl
/- (*palisade/mem.Memory).Store -/
noncomputable def g43 : SFun := fun call _ args s0 =>
 @List.rec Value (fun _ => RR) none (fun x1 t2 _ =>
 @List.rec Value (fun _ => RR) none (fun x3 t4 _ =>
 @List.rec Value (fun _ => RR) none (fun x5 t6 _ =>
 @List.rec Value (fun _ => RR) none (fun x7 _ _ =>
 bind2 (call 58 [x1, x3, x5] s0) fun v9 s10 =>
 bindR (extractF 0 v9) fun v11 =>
 bindR (extractF 1 v9) fun v12 =>
 bindR (eqlF v12 (Value.int .i64 (Int.ofNat 0))) fun v13 =>
 joinK (fun (x14 : Value) (s15 : Sto) =>
 some (x14, s15)) fun (J16 : Value → Sto → RR) => branch v13 (
 bind2 (call 59 [x7, x5] s10) fun v17 s18 =>
 bind2 (copyV s18 1 v11 v17) fun _ s20 =>
 J16 v12 s20) (
 J16 v12 s10)) t6) t4) t2) args
theorem st43 (call : CallF) (lf : Nat) (args : List Value) (s : Sto) : g43 call lf args s = runK k43 call lf args s := by kernel_rfl
/- (*palisade/ring.Ring).usable -/
noncomputable def g44 : SFun := fun _ _ args s0 =>
 @List.rec Value (fun _ => RR) none (fun x1 t2 _ =>
 @List.rec Value (fun _ => RR) none (fun x3 _ _ =>
 joinK (fun  (s5 : Sto) =>
 some ((Value.int .i64 (Int.ofNat 0)), s5)) fun (J6 : Sto → RR) =>
 bindR (eqvF .ptr false true x1 (Value.pointer none)) fun v7 =>
 bindR (guardF false v7 (some x1) (some undef)) fun v8 =>
 bindR (guardF false v7 (nilF v8) (some undef)) fun v9 =>
 bindR (guardF false v7 (addOffF 1 v9) (some undef)) fun v10 =>
 bindR (guardF false v7 (loadF s0 none v10) (some undef)) fun v11 =>
 bindR (guardF false v7 (eqlF v11 (Value.int .u64 (Int.ofNat 0))) (some undef)) fun v12 =>
 bindR (pickF (some (Value.bool true)) (some v12) v7) fun v13 =>
 bindR (guardF false v13 (some x3) (some undef)) fun v14 =>
 bindR (guardF false v13 (eqvF .iface false true v14 Value.nilIface) (some undef)) fun v15 =>
 bindR (pickF (some (Value.bool true)) (some v15) v13) fun v16 =>
 branch v16 (
 some ((Value.int .i64 (Int.ofNat 1)), s0)) (
 bindR (nilF x1) fun v17 =>
 bindR (addOffF 4 v17) fun v18 =>
 bindR (loadF s0 none v18) fun v19 =>
 branch v19 (
 some ((Value.int .i64 (Int.ofNat 22)), s0)) (
 J6  s0))) t2) args
theorem st44 (call : CallF) (lf : Nat) (args : List Value) (s : Sto) : g44 call lf args s = runK k44 call lf args s := by kernel_rfl
/- (*palisade/ring.reader).number -/
noncomputable def g45 : SFun := fun call _ args s0 =>
 @List.rec Value (fun _ => RR) none (fun x1 t2 _ =>
 @List.rec Value (fun _ => RR) none (fun x3 _ _ =>
 bindR (nilF x1) fun v5 =>
 bindR (addOffF 0 v5) fun v6 =>
 bindR (loadF s0 none v6) fun v7 =>
 bind2 (invokeF call s0 [(24, 83), (25, 85)] [x3, (Value.int .i64 (Int.ofNat 8))] v7) fun v8 s9 =>
 bindR (extractF 0 v8) fun v10 =>
 bindR (extractF 1 v8) fun v11 =>
 bindR (nilF x1) fun v12 =>
 bindR (addOffF 1 v12) fun v13 =>
 bindR (loadF s9 none v13) fun v14 =>
 bindR (guardF false v14 (some v11) (some undef)) fun v15 =>
 bindR (guardF false v14 (neqF v15 (Value.int .i64 (Int.ofNat 0))) (some undef)) fun v16 =>
 bindR (pickF (some (Value.bool true)) (some v16) v14) fun v17 =>
 bindR (nilF x1) fun v18 =>
 bindR (addOffF 1 v18) fun v19 =>
 bind2 (storeF s9 1 v19 v17) fun _ s21 =>
 some (v10, s21)) t2) args
theorem st45 (call : CallF) (lf : Nat) (args : List Value) (s : Sto) : g45 call lf args s = runK k45 call lf args s := by kernel_rfl
/- (*palisade/ring.Ring).chain -/
noncomputable def g46 : SFun := fun call lf args s0 =>
 @List.rec Value (fun _ => RR) none (fun x1 t2 _ =>
 @List.rec Value (fun _ => RR) none (fun x3 t4 _ =>
 @List.rec Value (fun _ => RR) none (fun x5 _ _ =>
 bind2 (some (AObj.cells 2 [(Value.int .i64 (Int.ofNat 0)), (Value.slice none 0 0)] .leaf .fixed, fun b => Value.pointer (some ⟨b, 0, none⟩))) fun o7 f8 => (fun (v9 : Value) (s10 : Sto) =>
 bindR (nilF x1) fun v11 =>
 bindR (addOffF 1 v11) fun v12 =>
 bindR (loadF s10 none v12) fun v13 =>
 joinK (fun (x14 : Value) (x15 : Value) (x16 : Value) (s17 : Sto) =>
 bindR (convF .i64 x14) fun v18 =>
 bindR (addOffF 0 x15) fun v19 =>
 bind2 (storeF s17 1 v19 v18) fun _ s21 =>
 bindR (loadF s21 (some 2) x15) fun v22 =>
 bind2 (storeF s21 2 x15 v22) fun _ s24 =>
 bindR (loadF s24 (some 2) x15) fun v25 =>
 some (Value.tuple (Array.mk [v25, x16]), s24)) fun (J26 : Value → Value → Value → Sto → RR) =>
 (@Nat.rec (fun _ => Value → Value → Value → Value → Value → Value → Value → Value → Sto → RR) (fun _ _ _ _ _ _ _ _ _ => none) (fun _ J27 => fun (x28 : Value) (x29 : Value) (x30 : Value) (x31 : Value) (x32 : Value) (x33 : Value) (x34 : Value) (x35 : Value) (s36 : Sto) =>
 bindR (lssF x35 x34) fun v37 =>
 branch v37 (
 joinK (fun (x38 : Value) (x39 : Value) (x40 : Value) (x41 : Value) (x42 : Value) (x43 : Value) (x44 : Value) (x45 : Value) (s46 : Sto) =>
 bindR (addF x45 (Value.int .u64 (Int.ofNat 1))) fun v47 =>
 J27 x38 x39 x40 x41 x42 x43 x44 v47 s46) fun (J48 : Value → Value → Value → Value → Value → Value → Value → Value → Sto → RR) =>
 bindR (nilF x28) fun v49 =>
 bindR (addOffF 1 v49) fun v50 =>
 bindR (loadF s36 none v50) fun v51 =>
 bindR (geqF x33 v51) fun v52 =>
 branch v52 (
 bindR ((fillA [(Value.int .i64 (Int.ofNat 0)), (Value.slice none 0 0)] []).bind fun cs => some (Value.agg cs.toArray)) fun v53 =>
 bind2 (storeF s36 2 x31 v53) fun _ s55 =>
 bindR (loadF s55 (some 2) x31) fun v56 =>
 some (Value.tuple (Array.mk [v56, (Value.bool false)]), s55)) (
 bindR (nilF x28) fun v57 =>
 bindR (addOffF 0 v57) fun v58 =>
 bindR (loadF s36 none v58) fun v59 =>
 bindR (mulF (Value.int .u64 (Int.ofNat 32)) x33) fun v60 =>
 bindR (addF v59 v60) fun v61 =>
 bind2 (call 60 [x29, v61] s36) fun v62 s63 =>
 bindR (extractF 0 v62) fun v64 =>
 bindR (extractF 1 v62) fun v65 =>
 bindR (extractF 2 v62) fun v66 =>
 bind2 (some (AObj.cells 3 [(Value.int .u64 (Int.ofNat 0)), (Value.int .i64 (Int.ofNat 0)), (Value.bool false)] .leaf .fixed, fun b => Value.pointer (some ⟨b, 0, none⟩))) fun o67 f68 => (fun (v69 : Value) (s70 : Sto) =>
 bind2 (storeF s70 3 v69 v64) fun _ s72 =>
 bindR (addOffF 1 x31) fun v73 =>
 bindR (loadF s72 none v73) fun v74 =>
 bindR (lenF false v74) fun v75 =>
 bindR (nilF x29) fun v76 =>
 bindR (addOffF 1 v76) fun v77 =>
 bindR (loadF s72 none v77) fun v78 =>
 bindR (guardF false v78 (some v75) (some undef)) fun v79 =>
 bindR (guardF false v78 (gtrF v79 (Value.int .i64 (Int.ofNat 0))) (some undef)) fun v80 =>
 bindR (guardF false v78 (some v80) (some undef)) fun v81 =>
 bindR (guardF true v81 (addOffF 1 x31) (some undef)) fun v82 =>
 bindR (guardF true v81 (loadF s72 none v82) (some undef)) fun v83 =>
 bindR (guardF true v81 (some v75) (some undef)) fun v84 =>
 bindR (guardF true v81 (subF v84 (Value.int .i64 (Int.ofNat 1))) (some undef)) fun v85 =>
 bindR (guardF true v81 (ixSF 3 v83 v85) (some undef)) fun v86 =>
 bindR (guardF true v81 (addOffF 2 v86) (some undef)) fun v87 =>
 bindR (guardF true v81 (loadF s72 none v87) (some undef)) fun v88 =>
 bindR (guardF false v78 (pickF (some v88) (some (Value.bool false)) v81) (some undef)) fun v89 =>
 bindR (guardF false v78 (some v89) (some undef)) fun v90 =>
 bindR (guardF true v90 (addOffF 2 v69) (some undef)) fun v91 =>
 bindR (guardF true v90 (loadF s72 none v91) (some undef)) fun v92 =>
 bindR (guardF true v90 (notF v92) (some undef)) fun v93 =>
 bindR (guardF false v78 (pickF (some v93) (some (Value.bool false)) v90) (some undef)) fun v94 =>
 bindR (pickF (some (Value.bool true)) (some v94) v78) fun v95 =>
 branch v95 (
 bindR ((fillA [(Value.int .i64 (Int.ofNat 0)), (Value.slice none 0 0)] []).bind fun cs => some (Value.agg cs.toArray)) fun v96 =>
 bind2 (storeF s72 2 x31 v96) fun _ s98 =>
 bindR (loadF s98 (some 2) x31) fun v99 =>
 some (Value.tuple (Array.mk [v99, (Value.bool false)]), s98)) (
 bindR (addOffF 1 x31) fun v100 =>
 bindR (loadF s72 none v100) fun v101 =>
 bindR (loadF s72 (some 3) v69) fun v102 =>
 bind2 (mkLitV 1 3 [(Value.int .u64 (Int.ofNat 0)), (Value.int .i64 (Int.ofNat 0)), (Value.bool false)] [(0, 3, v102)]) fun o103 f104 => (fun (v105 : Value) (s106 : Sto) =>
 bind2 (runAppend s106 3 24 v101 v105) fun v107 s108 =>
 bindR (addOffF 1 x31) fun v109 =>
 bind2 (storeF s108 1 v109 v107) fun _ s111 =>
 bindR (notF v66) fun v112 =>
 branch v112 (
 J26 x30 x31 v112 s111) (
 J48 x28 x29 x30 x31 v112 v65 x34 x35 s111)) (f104 (Sto.next s72)) ⟨Nat.succ (Sto.next s72), setR (Sto.objs s72) (Sto.next s72) o103⟩)) (f68 (Sto.next s63)) ⟨Nat.succ (Sto.next s63), setR (Sto.objs s63) (Sto.next s63) o67⟩)) (
 J26 x30 x31 x32 s36)) lf) x1 x3 x5 v9 (Value.bool false) x5 v13 (Value.int .u64 (Int.ofNat 0)) s10) (f8 (Sto.next s0)) ⟨Nat.succ (Sto.next s0), setR (Sto.objs s0) (Sto.next s0) o7⟩) t4) t2) args
theorem st46 (call : CallF) (lf : Nat) (args : List Value) (s : Sto) : g46 call lf args s = runK k46 call lf args s := by kernel_rfl
/- palisade/backend.number -/
noncomputable def g47 : SFun := fun _ lf args s0 =>
 @List.rec Value (fun _ => RR) none (fun x1 _ _ =>
 joinK (fun (x3 : Value) (s4 : Sto) =>
 some (x3, s4)) fun (J5 : Value → Sto → RR) =>
 (@Nat.rec (fun _ => Value → Value → Value → Sto → RR) (fun _ _ _ _ => none) (fun _ J6 => fun (x7 : Value) (x8 : Value) (x9 : Value) (s10 : Sto) =>
 bindR (geqF x9 (Value.int .i64 (Int.ofNat 0))) fun v11 =>
 branch v11 (
 joinK (fun (x12 : Value) (x13 : Value) (x14 : Value) (s15 : Sto) =>
 bindR (subF x14 (Value.int .i64 (Int.ofNat 1))) fun v16 =>
 J6 x12 x13 v16 s15) fun (J17 : Value → Value → Value → Sto → RR) =>
 bindR (shlF x8 (Value.int .u64 (Int.ofNat 8))) fun v18 =>
 bindR (ixSF 1 x7 x9) fun v19 =>
 bindR (loadF s10 none v19) fun v20 =>
 bindR (convF .u64 v20) fun v21 =>
 bindR (orF v18 v21) fun v22 =>
 J17 x7 v22 x9 s10) (
 J5 x8 s10)) lf) x1 (Value.int .u64 (Int.ofNat 0)) (Value.int .i64 (Int.ofNat 7)) s0) args
theorem st47 (call : CallF) (lf : Nat) (args : List Value) (s : Sto) : g47 call lf args s = runK k47 call lf args s := by kernel_rfl
/- (*palisade/frames.Frames).Hold -/
noncomputable def g48 : SFun := fun call _ args s0 =>
 @List.rec Value (fun _ => RR) none (fun x1 t2 _ =>
 @List.rec Value (fun _ => RR) none (fun x3 t4 _ =>
 @List.rec Value (fun _ => RR) none (fun x5 _ _ =>
 bind2 (mkLitV 1 1 [(Value.int .i64 (Int.ofNat 0))] [(0, 1, x5)]) fun o7 f8 => (fun (v9 : Value) (s10 : Sto) =>
 bind2 (call 38 [x1, x3, v9] s10) fun v11 s12 =>
 joinK (fun (x13 : Value) (x14 : Value) (s15 : Sto) =>
 bindR (nilF x13) fun v16 =>
 bindR (addOffF 2 v16) fun v17 =>
 bindR (loadF s15 none v17) fun v18 =>
 bindR (lookupV s15 (false, [.i]) (Value.int .i64 (Int.ofNat 0)) false v18 x14) fun v19 =>
 bindR (addF v19 (Value.int .i64 (Int.ofNat 1))) fun v20 =>
 bind2 (mapUpdateV s15 (false, [.i]) v18 x14 v20) fun _ s22 =>
 some ((Value.int .i64 (Int.ofNat 0)), s22)) fun (J23 : Value → Value → Sto → RR) =>
 bindR (neqF v11 (Value.int .i64 (Int.ofNat 0))) fun v24 =>
 branch v24 (
 some (v11, s12)) (
 bindR (nilF x1) fun v25 =>
 bindR (addOffF 2 v25) fun v26 =>
 bindR (loadF s12 none v26) fun v27 =>
 bindR (lookupV s12 (false, [.i]) (Value.int .i64 (Int.ofNat 0)) false v27 x3) fun v28 =>
 bindR (geqF v28 (Value.int .i64 (Int.ofNat 65536))) fun v29 =>
 branch v29 (
 some ((Value.int .i64 (Int.ofNat 18)), s12)) (
 J23 x1 x3 s12))) (f8 (Sto.next s0)) ⟨Nat.succ (Sto.next s0), setR (Sto.objs s0) (Sto.next s0) o7⟩) t4) t2) args
theorem st48 (call : CallF) (lf : Nat) (args : List Value) (s : Sto) : g48 call lf args s = runK k48 call lf args s := by kernel_rfl
/- (*palisade/disk.Disk).Submit -/
noncomputable def g49 : SFun := fun call _ args s0 =>
 @List.rec Value (fun _ => RR) none (fun x1 t2 _ =>
 @List.rec Value (fun _ => RR) none (fun x3 _ _ =>
 bind2 (some (boxV x3)) fun o5 f6 => (fun (v7 : Value) (s8 : Sto) =>
 bindR (addOffF 2 v7) fun v9 =>
 bindR (loadF s8 none v9) fun v10 =>
 bind2 (call 54 [x1, v10] s8) fun v11 s12 =>
 joinK (fun (x13 : Value) (x14 : Value) (s15 : Sto) =>
 (fun (s16 : Sto) =>
 bindR (nilF x13) fun v17 =>
 bindR (addOffF 2 v17) fun v18 =>
 bindR (loadF s16 none v18) fun v19 =>
 bindR (loadF s16 (some 4) x14) fun v20 =>
 bind2 (mkLitV 1 4 [(Value.int .i64 (Int.ofNat 0)), (Value.bool false), (Value.int .i64 (Int.ofNat 0)), (Value.int .i64 (Int.ofNat 0))] [(0, 4, v20)]) fun o21 f22 => @Option.rec AObj (fun _ => RR) ((fun (v23 : Value) (s24 : Sto) =>
 bind2 (runAppend s24 4 32 v19 v23) fun v25 s26 =>
 bindR (nilF x13) fun v27 =>
 bindR (addOffF 2 v27) fun v28 =>
 bind2 (storeF s26 1 v28 v25) fun _ s30 =>
 some ((Value.int .i64 (Int.ofNat 0)), s30)) (f22 (Nat.add (Sto.next s15) 0)) ⟨Sto.next s16, setR (Sto.objs s16) (Nat.add (Sto.next s15) 0) o21⟩) (fun _ => none) (getR (Sto.objs s16) (Nat.add (Sto.next s15) 0))) ⟨Nat.add (Sto.next s15) 1, Sto.objs s15⟩) fun (J31 : Value → Value → Sto → RR) =>
 bindR (neqF v11 (Value.int .i64 (Int.ofNat 0))) fun v32 =>
 branch v32 (
 some (v11, s12)) (
 bindR (nilF x1) fun v33 =>
 bindR (addOffF 2 v33) fun v34 =>
 bindR (loadF s12 none v34) fun v35 =>
 bindR (some (Value.func (.func 62) (List.toArray []) (List.toArray [v7]))) fun v36 =>
 bind2 (call 61 [v35, v36] s12) fun v37 s38 =>
 branch v37 (
 some ((Value.int .i64 (Int.ofNat 13)), s38)) (
 bindR (nilF x1) fun v39 =>
 bindR (addOffF 2 v39) fun v40 =>
 bindR (loadF s38 none v40) fun v41 =>
 bindR (lenF false v41) fun v42 =>
 bindR (geqF v42 (Value.int .i64 (Int.ofNat 8))) fun v43 =>
 branch v43 (
 some ((Value.int .i64 (Int.ofNat 18)), s38)) (
 J31 x1 v7 s38)))) (f6 (Sto.next s0)) ⟨Nat.succ (Sto.next s0), setR (Sto.objs s0) (Sto.next s0) o5⟩) t2) args
theorem st49 (call : CallF) (lf : Nat) (args : List Value) (s : Sto) : g49 call lf args s = runK k49 call lf args s := by kernel_rfl
/- (*palisade/mem.Memory).none -/
noncomputable def g50 : SFun := fun _ _ args s0 =>
 @List.rec Value (fun _ => RR) none (fun x1 _ _ =>
 bindR (eqvF .ptr false true x1 (Value.pointer none)) fun v3 =>
 bindR (guardF false v3 (some x1) (some undef)) fun v4 =>
 bindR (guardF false v3 (nilF v4) (some undef)) fun v5 =>
 bindR (guardF false v3 (addOffF 0 v5) (some undef)) fun v6 =>
 bindR (guardF false v3 (loadF s0 none v6) (some undef)) fun v7 =>
 bindR (guardF false v3 (eqvF .slice false true v7 (Value.slice none 0 0)) (some undef)) fun v8 =>
 bindR (pickF (some (Value.bool true)) (some v8) v3) fun v9 =>
 some (v9, s0)) args
theorem st50 (call : CallF) (lf : Nat) (args : List Value) (s : Sto) : g50 call lf args s = runK k50 call lf args s := by kernel_rfl
/- slices.IndexFunc[[]palisade/disk.Request,palisade/disk.Request] -/
noncomputable def g51 : SFun := fun call lf args s0 =>
 @List.rec Value (fun _ => RR) none (fun x1 t2 _ =>
 @List.rec Value (fun _ => RR) none (fun x3 _ _ =>
 bindR (lenF false x1) fun v5 =>
 joinK (fun  (s6 : Sto) =>
 some ((Value.int .i64 (Int.negSucc 0)), s6)) fun (J7 : Sto → RR) =>
 (@Nat.rec (fun _ => Value → Value → Value → Value → Sto → RR) (fun _ _ _ _ _ => none) (fun _ J8 => fun (x9 : Value) (x10 : Value) (x11 : Value) (x12 : Value) (s13 : Sto) =>
 bindR (lssF x12 x11) fun v14 =>
 branch v14 (
 joinK (fun (x15 : Value) (x16 : Value) (x17 : Value) (x18 : Value) (s19 : Sto) =>
 bindR (addF x18 (Value.int .i64 (Int.ofNat 1))) fun v20 =>
 J8 x15 x16 x17 v20 s19) fun (J21 : Value → Value → Value → Value → Sto → RR) =>
 bindR (ixSF 4 x9 x12) fun v22 =>
 bindR (loadF s13 (some 4) v22) fun v23 =>
 bind2 (callVV call s13 [v23] x10) fun v24 s25 =>
 branch v24 (
 some (x12, s25)) (
 J21 x9 x10 x11 x12 s25)) (
 J7  s13)) lf) x1 x3 v5 (Value.int .i64 (Int.ofNat 0)) s0) t2) args
theorem st51 (call : CallF) (lf : Nat) (args : List Value) (s : Sto) : g51 call lf args s = runK k51 call lf args s := by kernel_rfl
/- (*palisade/mem.Memory).part -/
noncomputable def g52 : SFun := fun call _ args s0 =>
 @List.rec Value (fun _ => RR) none (fun x1 t2 _ =>
 @List.rec Value (fun _ => RR) none (fun x3 t4 _ =>
 @List.rec Value (fun _ => RR) none (fun x5 _ _ =>
 bind2 (some (boxV x1)) fun o7 f8 => (fun (v9 : Value) (s10 : Sto) =>
 bind2 (some (boxV x3)) fun o11 f12 => (fun (v13 : Value) (s14 : Sto) =>
 bind2 (some (boxV x5)) fun o15 f16 => (fun (v17 : Value) (s18 : Sto) =>
 bindR (some (Value.func (.func 63) (List.toArray []) (List.toArray [v17, v9, v13]))) fun v19 =>
 joinK (fun (x20 : Value) (x21 : Value) (x22 : Value) (s23 : Sto) =>
 bindR (loadF s23 none x21) fun v24 =>
 bindR (convF .i64 v24) fun v25 =>
 bindR (loadF s23 none x22) fun v26 =>
 bindR (addF v25 v26) fun v27 =>
 (fun (s28 : Sto) =>
 bindR (loadF s28 none x20) fun v29 =>
 bindR (nilF v29) fun v30 =>
 bindR (addOffF 0 v30) fun v31 =>
 bindR (loadF s28 none v31) fun v32 =>
 bindR (loadF s28 none x21) fun v33 =>
 bindR (slSV 1 (some v33) (some v27) (some v27) v32) fun v34 =>
 some (Value.tuple (Array.mk [v34, (Value.int .i64 (Int.ofNat 0))]), s28)) ⟨Nat.add (Sto.next s23) 0, Sto.objs s23⟩) fun (J35 : Value → Value → Value → Sto → RR) =>
 bindR (loadF s18 none v9) fun v36 =>
 bind2 (call 50 [v36] s18) fun v37 s38 =>
 branch v37 (
 some (Value.tuple (Array.mk [(Value.slice none 0 0), (Value.int .i64 (Int.ofNat 1))]), s38)) (
 bindR (loadF s38 none v17) fun v39 =>
 bindR (lssF v39 (Value.int .i64 (Int.ofNat 0))) fun v40 =>
 branch v40 (
 some (Value.tuple (Array.mk [(Value.slice none 0 0), (Value.int .i64 (Int.ofNat 2))]), s38)) (
 bind2 (callVV call s38 [] v19) fun v41 s42 =>
 bindR (notF v41) fun v43 =>
 branch v43 (
 some (Value.tuple (Array.mk [(Value.slice none 0 0), (Value.int .i64 (Int.ofNat 12))]), s42)) (
 J35 v9 v13 v17 s42)))) (f16 (Sto.next s14)) ⟨Nat.succ (Sto.next s14), setR (Sto.objs s14) (Sto.next s14) o15⟩) (f12 (Sto.next s10)) ⟨Nat.succ (Sto.next s10), setR (Sto.objs s10) (Sto.next s10) o11⟩) (f8 (Sto.next s0)) ⟨Nat.succ (Sto.next s0), setR (Sto.objs s0) (Sto.next s0) o7⟩) t4) t2) args
theorem st52 (call : CallF) (lf : Nat) (args : List Value) (s : Sto) : g52 call lf args s = runK k52 call lf args s := by kernel_rfl
/- bytes.Clone -/
noncomputable def g53 : SFun := fun _ _ args s0 =>
 @List.rec Value (fun _ => RR) none (fun x1 _ _ =>
 bindR (eqvF .slice false true x1 (Value.slice none 0 0)) fun v3 =>
 branch v3 (
 some ((Value.slice none 0 0), s0)) (
 bind2 (mkLitV 0 1 [(Value.int .u8 (Int.ofNat 0))] []) fun o4 f5 => (fun (v6 : Value) (s7 : Sto) =>
 bind2 (runAppend s7 1 1 v6 x1) fun v8 s9 =>
 some (v8, s9)) (f5 (Sto.next s0)) ⟨Nat.succ (Sto.next s0), setR (Sto.objs s0) (Sto.next s0) o4⟩)) args
theorem st53 (call : CallF) (lf : Nat) (args : List Value) (s : Sto) : g53 call lf args s = runK k53 call lf args s := by kernel_rfl
/- (*palisade/disk.Disk).wrong -/
noncomputable def g54 : SFun := fun call _ args s0 =>
 @List.rec Value (fun _ => RR) none (fun x1 t2 _ =>
 @List.rec Value (fun _ => RR) none (fun x3 _ _ =>
 joinK (fun  (s5 : Sto) =>
 some ((Value.int .i64 (Int.ofNat 0)), s5)) fun (J6 : Sto → RR) =>
 bind2 (call 29 [x1] s0) fun v7 s8 =>
 branch v7 (
 some ((Value.int .i64 (Int.ofNat 1)), s8)) (
 bindR (lssF x3 (Value.int .i64 (Int.ofNat 0))) fun v9 =>
 bindR (guardF false v9 (some x3) (some undef)) fun v10 =>
 bindR (guardF false v9 (some x1) (some undef)) fun v11 =>
 bindR (guardF false v9 (nilF v11) (some undef)) fun v12 =>
 bindR (guardF false v9 (addOffF 0 v12) (some undef)) fun v13 =>
 bindR (guardF false v9 (loadF s8 none v13) (some undef)) fun v14 =>
 bindR (guardF false v9 (geqF v10 v14) (some undef)) fun v15 =>
 bindR (pickF (some (Value.bool true)) (some v15) v9) fun v16 =>
 branch v16 (
 some ((Value.int .i64 (Int.ofNat 12)), s8)) (
 J6  s8))) t2) args
theorem st54 (call : CallF) (lf : Nat) (args : List Value) (s : Sto) : g54 call lf args s = runK k54 call lf args s := by kernel_rfl
/- slices.ContainsFunc[[]byte,byte] -/
noncomputable def g55 : SFun := fun call _ args s0 =>
 @List.rec Value (fun _ => RR) none (fun x1 t2 _ =>
 @List.rec Value (fun _ => RR) none (fun x3 _ _ =>
 bind2 (call 64 [x1, x3] s0) fun v5 s6 =>
 bindR (geqF v5 (Value.int .i64 (Int.ofNat 0))) fun v7 =>
 some (v7, s6)) t2) args
theorem st55 (call : CallF) (lf : Nat) (args : List Value) (s : Sto) : g55 call lf args s = runK k55 call lf args s := by kernel_rfl
/- (*palisade/disk.Disk).Put$1 -/
noncomputable def g56 : SFun := fun _ _ args s0 =>
 @List.rec Value (fun _ => RR) none (fun x1 _ _ =>
 bindR (neqF x1 (Value.int .u8 (Int.ofNat 0))) fun v3 =>
 some (v3, s0)) args
theorem st56 (call : CallF) (lf : Nat) (args : List Value) (s : Sto) : g56 call lf args s = runK k56 call lf args s := by kernel_rfl
/- slices.Clone[[]byte,byte] -/
noncomputable def g57 : SFun := fun _ _ args s0 =>
 @List.rec Value (fun _ => RR) none (fun x1 _ _ =>
 bindR (eqvF .slice false true x1 (Value.slice none 0 0)) fun v3 =>
 branch v3 (
 some ((Value.slice none 0 0), s0)) (
 bind2 (mkLitV 0 1 [(Value.int .u8 (Int.ofNat 0))] []) fun o4 f5 => (fun (v6 : Value) (s7 : Sto) =>
 bind2 (runAppend s7 1 1 v6 x1) fun v8 s9 =>
 some (v8, s9)) (f5 (Sto.next s0)) ⟨Nat.succ (Sto.next s0), setR (Sto.objs s0) (Sto.next s0) o4⟩)) args
theorem st57 (call : CallF) (lf : Nat) (args : List Value) (s : Sto) : g57 call lf args s = runK k57 call lf args s := by kernel_rfl
/- (*palisade/mem.Memory).number -/
noncomputable def g58 : SFun := fun call _ args s0 =>
 @List.rec Value (fun _ => RR) none (fun x1 t2 _ =>
 @List.rec Value (fun _ => RR) none (fun x3 t4 _ =>
 @List.rec Value (fun _ => RR) none (fun x5 _ _ =>
 joinK (fun (x7 : Value) (x8 : Value) (x9 : Value) (s10 : Sto) =>
 bind2 (call 52 [x7, x8, x9] s10) fun v11 s12 =>
 bindR (extractF 0 v11) fun v13 =>
 bindR (extractF 1 v11) fun v14 =>
 some (Value.tuple (Array.mk [v13, v14]), s12)) fun (J15 : Value → Value → Value → Sto → RR) =>
 bind2 (call 50 [x1] s0) fun v16 s17 =>
 branch v16 (
 some (Value.tuple (Array.mk [(Value.slice none 0 0), (Value.int .i64 (Int.ofNat 1))]), s17)) (
 bindR (neqF x5 (Value.int .i64 (Int.ofNat 1))) fun v18 =>
 bindR (guardF true v18 (some x5) (some undef)) fun v19 =>
 bindR (guardF true v18 (neqF v19 (Value.int .i64 (Int.ofNat 4))) (some undef)) fun v20 =>
 bindR (pickF (some v20) (some (Value.bool false)) v18) fun v21 =>
 bindR (guardF true v21 (some x5) (some undef)) fun v22 =>
 bindR (guardF true v21 (neqF v22 (Value.int .i64 (Int.ofNat 8))) (some undef)) fun v23 =>
 bindR (pickF (some v23) (some (Value.bool false)) v21) fun v24 =>
 branch v24 (
 some (Value.tuple (Array.mk [(Value.slice none 0 0), (Value.int .i64 (Int.ofNat 2))]), s17)) (
 bindR (convF .u64 x5) fun v25 =>
 bindR (remF x3 v25) fun v26 =>
 bindR (neqF v26 (Value.int .u64 (Int.ofNat 0))) fun v27 =>
 branch v27 (
 some (Value.tuple (Array.mk [(Value.slice none 0 0), (Value.int .i64 (Int.ofNat 11))]), s17)) (
 J15 x1 x3 x5 s17)))) t4) t2) args
theorem st58 (call : CallF) (lf : Nat) (args : List Value) (s : Sto) : g58 call lf args s = runK k58 call lf args s := by kernel_rfl
/- palisade/word.Store -/
noncomputable def g59 : SFun := fun call lf args s0 =>
 @List.rec Value (fun _ => RR) none (fun x1 t2 _ =>
 @List.rec Value (fun _ => RR) none (fun x3 _ _ =>
 bind2 (call 65 [x3] s0) fun v5 s6 =>
 bindR (notF v5) fun v7 =>
 branch v7 (
 some ((Value.slice none 0 0), s6)) (
 bind2 (makeSliceV [(Value.int .u8 (Int.ofNat 0))] 1 x3 x3) fun o8 f9 => (fun (v10 : Value) (s11 : Sto) =>
 bindR (lenF false v10) fun v12 =>
 joinK (fun (x13 : Value) (s14 : Sto) =>
 some (x13, s14)) fun (J15 : Value → Sto → RR) =>
 (@Nat.rec (fun _ => Value → Value → Value → Value → Sto → RR) (fun _ _ _ _ _ => none) (fun _ J16 => fun (x17 : Value) (x18 : Value) (x19 : Value) (x20 : Value) (s21 : Sto) =>
 bindR (lssF x20 x19) fun v22 =>
 branch v22 (
 joinK (fun (x23 : Value) (x24 : Value) (x25 : Value) (x26 : Value) (s27 : Sto) =>
 bindR (addF x26 (Value.int .i64 (Int.ofNat 1))) fun v28 =>
 J16 x23 x24 x25 v28 s27) fun (J29 : Value → Value → Value → Value → Sto → RR) =>
 bindR (mulF (Value.int .i64 (Int.ofNat 8)) x20) fun v30 =>
 bindR (shrF x17 v30) fun v31 =>
 bindR (convF .u8 v31) fun v32 =>
 bindR (ixSF 1 x18 x20) fun v33 =>
 bind2 (storeF s21 1 v33 v32) fun _ s35 =>
 J29 x17 x18 x19 x20 s35) (
 J15 x18 s21)) lf) x1 v10 v12 (Value.int .i64 (Int.ofNat 0)) s11) (f9 (Sto.next s6)) ⟨Nat.succ (Sto.next s6), setR (Sto.objs s6) (Sto.next s6) o8⟩)) t2) args
theorem st59 (call : CallF) (lf : Nat) (args : List Value) (s : Sto) : g59 call lf args s = runK k59 call lf args s := by kernel_rfl
/- (*palisade/ring.reader).part -/
noncomputable def g60 : SFun := fun call lf args s0 =>
 @List.rec Value (fun _ => RR) none (fun x1 t2 _ =>
 @List.rec Value (fun _ => RR) none (fun x3 _ _ =>
 bind2 (some (AObj.cells 3 [(Value.int .u64 (Int.ofNat 0)), (Value.int .i64 (Int.ofNat 0)), (Value.bool false)] .leaf .fixed, fun b => Value.pointer (some ⟨b, 0, none⟩))) fun o5 f6 => (fun (v7 : Value) (s8 : Sto) =>
 bind2 (some (AObj.cells 4 [(Value.int .u64 (Int.ofNat 0)), (Value.int .u64 (Int.ofNat 0)), (Value.int .u64 (Int.ofNat 0)), (Value.int .u64 (Int.ofNat 0))] .leaf .fixed, fun b => Value.pointer (some ⟨b, 0, none⟩))) fun o9 f10 => (fun (v11 : Value) (s12 : Sto) =>
 joinK (fun (x13 : Value) (x14 : Value) (x15 : Value) (s16 : Sto) =>
 bindR (ixAF 4 1 x15 (Value.int .i64 (Int.ofNat 1))) fun v17 =>
 bindR (loadF s16 none v17) fun v18 =>
 bindR (lssF v18 (Value.int .u64 (Int.ofNat 1))) fun v19 =>
 bindR (guardF false v19 (ixAF 4 1 x15 (Value.int .i64 (Int.ofNat 1))) (some undef)) fun v20 =>
 bindR (guardF false v19 (loadF s16 none v20) (some undef)) fun v21 =>
 bindR (guardF false v19 (gtrF v21 (Value.int .u64 (Int.ofNat 4096))) (some undef)) fun v22 =>
 bindR (pickF (some (Value.bool true)) (some v22) v19) fun v23 =>
 bindR (guardF false v23 (ixAF 4 1 x15 (Value.int .i64 (Int.ofNat 2))) (some undef)) fun v24 =>
 bindR (guardF false v23 (loadF s16 none v24) (some undef)) fun v25 =>
 bindR (guardF false v23 (gtrF v25 (Value.int .u64 (Int.ofNat 3))) (some undef)) fun v26 =>
 bindR (pickF (some (Value.bool true)) (some v26) v23) fun v27 =>
 bindR (guardF false v27 (ixAF 4 1 x15 (Value.int .i64 (Int.ofNat 0))) (some undef)) fun v28 =>
 bindR (guardF false v27 (loadF s16 none v28) (some undef)) fun v29 =>
 bindR (guardF false v27 (ixAF 4 1 x15 (Value.int .i64 (Int.ofNat 1))) (some undef)) fun v30 =>
 bindR (guardF false v27 (loadF s16 none v30) (some undef)) fun v31 =>
 bindR (guardF false v27 (subF (Value.int .u64 (Int.ofNat 1099511627776)) v31) (some undef)) fun v32 =>
 bindR (guardF false v27 (gtrF v29 v32) (some undef)) fun v33 =>
 bindR (pickF (some (Value.bool true)) (some v33) v27) fun v34 =>
 branch v34 (
 bindR (nilF x13) fun v35 =>
 bindR (addOffF 1 v35) fun v36 =>
 bind2 (storeF s16 1 v36 (Value.bool true)) fun _ s38 =>
 bindR ((fillA [(Value.int .u64 (Int.ofNat 0)), (Value.int .i64 (Int.ofNat 0)), (Value.bool false)] []).bind fun cs => some (Value.agg cs.toArray)) fun v39 =>
 bind2 (storeF s38 3 x14 v39) fun _ s41 =>
 bindR (loadF s41 (some 3) x14) fun v42 =>
 some (Value.tuple (Array.mk [v42, (Value.int .u64 (Int.ofNat 0)), (Value.bool false)]), s41)) (
 (fun (s43 : Sto) =>
 bindR (ixAF 4 1 x15 (Value.int .i64 (Int.ofNat 0))) fun v44 =>
 bindR (loadF s43 none v44) fun v45 =>
 bindR (ixAF 4 1 x15 (Value.int .i64 (Int.ofNat 1))) fun v46 =>
 bindR (loadF s43 none v46) fun v47 =>
 bindR (convF .i64 v47) fun v48 =>
 bindR (ixAF 4 1 x15 (Value.int .i64 (Int.ofNat 2))) fun v49 =>
 bindR (loadF s43 none v49) fun v50 =>
 bindR (andF v50 (Value.int .u64 (Int.ofNat 2))) fun v51 =>
 bindR (neqF v51 (Value.int .u64 (Int.ofNat 0))) fun v52 =>
 bindR ((fillA [(Value.int .u64 (Int.ofNat 0)), (Value.int .i64 (Int.ofNat 0)), (Value.bool false)] [(0, 1, v45), (1, 1, v48), (2, 1, v52)]).bind fun cs => some (Value.agg cs.toArray)) fun v53 =>
 bindR (ixAF 4 1 x15 (Value.int .i64 (Int.ofNat 3))) fun v54 =>
 bindR (loadF s43 none v54) fun v55 =>
 bindR (ixAF 4 1 x15 (Value.int .i64 (Int.ofNat 2))) fun v56 =>
 bindR (loadF s43 none v56) fun v57 =>
 bindR (andF v57 (Value.int .u64 (Int.ofNat 1))) fun v58 =>
 bindR (neqF v58 (Value.int .u64 (Int.ofNat 0))) fun v59 =>
 bind2 (storeF s43 3 x14 v53) fun _ s61 =>
 bindR (loadF s61 none v56) fun w62 => @Bool.rec (fun _ => RR) none (
 bindR (loadF s61 none v54) fun w63 => @Bool.rec (fun _ => RR) none (
 bindR (loadF s61 (some 3) x14) fun v64 =>
 some (Value.tuple (Array.mk [v64, v55, v59]), s61)) (vEqF w63 v55)) (vEqF w62 v57)) ⟨Nat.add (Sto.next s16) 0, Sto.objs s16⟩)) fun (J65 : Value → Value → Value → Sto → RR) =>
 (@Nat.rec (fun _ => Value → Value → Value → Value → Value → Sto → RR) (fun _ _ _ _ _ _ => none) (fun _ J66 => fun (x67 : Value) (x68 : Value) (x69 : Value) (x70 : Value) (x71 : Value) (s72 : Sto) =>
 bindR (lssF x71 (Value.int .i64 (Int.ofNat 4))) fun v73 =>
 branch v73 (
 joinK (fun (x74 : Value) (x75 : Value) (x76 : Value) (x77 : Value) (x78 : Value) (s79 : Sto) =>
 bindR (addF x78 (Value.int .i64 (Int.ofNat 1))) fun v80 =>
 J66 x74 x75 x76 x77 v80 s79) fun (J81 : Value → Value → Value → Value → Value → Sto → RR) =>
 bindR (nilF x67) fun v82 =>
 bindR (addOffF 1 v82) fun v83 =>
 bindR (loadF s72 none v83) fun v84 =>
 bindR (notF v84) fun v85 =>
 joinK (fun (x86 : Value) (x87 : Value) (x88 : Value) (x89 : Value) (x90 : Value) (s91 : Sto) =>
 J81 x86 x87 x88 x89 x90 s91) fun (J92 : Value → Value → Value → Value → Value → Sto → RR) => branch v85 (
 bindR (convF .u64 x71) fun v93 =>
 bindR (mulF (Value.int .u64 (Int.ofNat 8)) v93) fun v94 =>
 bindR (addF x68 v94) fun v95 =>
 bind2 (call 45 [x67, v95] s72) fun v96 s97 =>
 bindR (ixAF 4 1 x70 x71) fun v98 =>
 bind2 (storeF s97 1 v98 v96) fun _ s100 =>
 J92 x67 x68 x69 x70 x71 s100) (
 J92 x67 x68 x69 x70 x71 s72)) (
 J65 x67 x69 x70 s72)) lf) x1 x3 v7 v11 (Value.int .i64 (Int.ofNat 0)) s12) (f10 (Sto.next s8)) ⟨Nat.succ (Sto.next s8), setR (Sto.objs s8) (Sto.next s8) o9⟩) (f6 (Sto.next s0)) ⟨Nat.succ (Sto.next s0), setR (Sto.objs s0) (Sto.next s0) o5⟩) t2) args
theorem st60 (call : CallF) (lf : Nat) (args : List Value) (s : Sto) : g60 call lf args s = runK k60 call lf args s := by kernel_rfl
/- slices.ContainsFunc[[]palisade/disk.Request,palisade/disk.Request] -/
noncomputable def g61 : SFun := fun call _ args s0 =>
 @List.rec Value (fun _ => RR) none (fun x1 t2 _ =>
 @List.rec Value (fun _ => RR) none (fun x3 _ _ =>
 bind2 (call 51 [x1, x3] s0) fun v5 s6 =>
 bindR (geqF v5 (Value.int .i64 (Int.ofNat 0))) fun v7 =>
 some (v7, s6)) t2) args
theorem st61 (call : CallF) (lf : Nat) (args : List Value) (s : Sto) : g61 call lf args s = runK k61 call lf args s := by kernel_rfl
/- (*palisade/disk.Disk).Submit$1 -/
noncomputable def g62 : SFun := fun _ _ args s0 =>
 @List.rec Value (fun _ => RR) none (fun x1 t2 _ =>
 @List.rec Value (fun _ => RR) none (fun x3 _ _ =>
 bind2 (some (boxV x1)) fun o5 f6 => (fun (v7 : Value) (s8 : Sto) =>
 bindR (addOffF 0 v7) fun v9 =>
 bindR (loadF s8 none v9) fun v10 =>
 bindR (addOffF 0 x3) fun v11 =>
 bindR (loadF s8 none v11) fun v12 =>
 bindR (eqlF v10 v12) fun v13 =>
 some (v13, s8)) (f6 (Sto.next s0)) ⟨Nat.succ (Sto.next s0), setR (Sto.objs s0) (Sto.next s0) o5⟩) t2) args
theorem st62 (call : CallF) (lf : Nat) (args : List Value) (s : Sto) : g62 call lf args s = runK k62 call lf args s := by kernel_rfl
/- (*palisade/mem.Memory).part$1 -/
noncomputable def g63 : SFun := fun _ _ args s0 =>
 @List.rec Value (fun _ => RR) none (fun x1 t2 _ =>
 @List.rec Value (fun _ => RR) none (fun x3 t4 _ =>
 @List.rec Value (fun _ => RR) none (fun x5 _ _ =>
 (fun (s7 : Sto) =>
 bindR (loadF s7 none x1) fun v8 =>
 bindR (loadF s7 none x3) fun v9 =>
 bindR (nilF v9) fun v10 =>
 bindR (addOffF 0 v10) fun v11 =>
 bindR (loadF s7 none v11) fun v12 =>
 bindR (lenF false v12) fun v13 =>
 bindR (leqF v8 v13) fun v14 =>
 bindR (guardF true v14 (loadF s7 none x5) (some undef)) fun v15 =>
 bindR (guardF true v14 (loadF s7 none x3) (some undef)) fun v16 =>
 bindR (guardF true v14 (nilF v16) (some undef)) fun v17 =>
 bindR (guardF true v14 (addOffF 0 v17) (some undef)) fun v18 =>
 bindR (guardF true v14 (loadF s7 none v18) (some undef)) fun v19 =>
 bindR (guardF true v14 (lenF false v19) (some undef)) fun v20 =>
 bindR (guardF true v14 (loadF s7 none x1) (some undef)) fun v21 =>
 bindR (guardF true v14 (subF v20 v21) (some undef)) fun v22 =>
 bindR (guardF true v14 (convF .u64 v22) (some undef)) fun v23 =>
 bindR (guardF true v14 (leqF v15 v23) (some undef)) fun v24 =>
 bindR (pickF (some v24) (some (Value.bool false)) v14) fun v25 =>
 some (v25, s7)) ⟨Nat.add (Sto.next s0) 0, Sto.objs s0⟩) t4) t2) args
theorem st63 (call : CallF) (lf : Nat) (args : List Value) (s : Sto) : g63 call lf args s = runK k63 call lf args s := by kernel_rfl
/- slices.IndexFunc[[]byte,byte] -/
noncomputable def g64 : SFun := fun call lf args s0 =>
 @List.rec Value (fun _ => RR) none (fun x1 t2 _ =>
 @List.rec Value (fun _ => RR) none (fun x3 _ _ =>
 bindR (lenF false x1) fun v5 =>
 joinK (fun  (s6 : Sto) =>
 some ((Value.int .i64 (Int.negSucc 0)), s6)) fun (J7 : Sto → RR) =>
 (@Nat.rec (fun _ => Value → Value → Value → Value → Sto → RR) (fun _ _ _ _ _ => none) (fun _ J8 => fun (x9 : Value) (x10 : Value) (x11 : Value) (x12 : Value) (s13 : Sto) =>
 bindR (lssF x12 x11) fun v14 =>
 branch v14 (
 joinK (fun (x15 : Value) (x16 : Value) (x17 : Value) (x18 : Value) (s19 : Sto) =>
 bindR (addF x18 (Value.int .i64 (Int.ofNat 1))) fun v20 =>
 J8 x15 x16 x17 v20 s19) fun (J21 : Value → Value → Value → Value → Sto → RR) =>
 bindR (ixSF 1 x9 x12) fun v22 =>
 bindR (loadF s13 none v22) fun v23 =>
 bind2 (callVV call s13 [v23] x10) fun v24 s25 =>
 branch v24 (
 some (x12, s25)) (
 J21 x9 x10 x11 x12 s25)) (
 J7  s13)) lf) x1 x3 v5 (Value.int .i64 (Int.ofNat 0)) s0) t2) args
theorem st64 (call : CallF) (lf : Nat) (args : List Value) (s : Sto) : g64 call lf args s = runK k64 call lf args s := by kernel_rfl
/- palisade/word.known -/
noncomputable def g65 : SFun := fun _ lf args s0 =>
 @List.rec Value (fun _ => RR) none (fun x1 _ _ =>
 bindR (loadF s0 (some 4) (Value.pointer (some ⟨0, 0, none⟩))) fun v3 =>
 joinK (fun  (s4 : Sto) =>
 some ((Value.bool false), s4)) fun (J5 : Sto → RR) =>
 (@Nat.rec (fun _ => Value → Value → Value → Sto → RR) (fun _ _ _ _ => none) (fun _ J6 => fun (x7 : Value) (x8 : Value) (x9 : Value) (s10 : Sto) =>
 bindR (lssF x9 (Value.int .i64 (Int.ofNat 4))) fun v11 =>
 branch v11 (
 joinK (fun (x12 : Value) (x13 : Value) (x14 : Value) (s15 : Sto) =>
 bindR (addF x14 (Value.int .i64 (Int.ofNat 1))) fun v16 =>
 J6 x12 x13 v16 s15) fun (J17 : Value → Value → Value → Sto → RR) =>
 bindR (ixVF 4 1 none x8 x9) fun v18 =>
 bindR (eqlF v18 x7) fun v19 =>
 bindR (guardF true v19 (some v18) (some undef)) fun v20 =>
 bindR (guardF true v19 (gtrF v20 (Value.int .i64 (Int.ofNat 0))) (some undef)) fun v21 =>
 bindR (pickF (some v21) (some (Value.bool false)) v19) fun v22 =>
 branch v22 (
 some ((Value.bool true), s10)) (
 J17 x7 x8 x9 s10)) (
 J5  s10)) lf) x1 v3 (Value.int .i64 (Int.ofNat 0)) s0) args
theorem st65 (call : CallF) (lf : Nat) (args : List Value) (s : Sto) : g65 call lf args s = runK k65 call lf args s := by kernel_rfl
/- (*palisade/palisadelaw24.Flat).Bytes -/
noncomputable def g81 : SFun := fun call _ args s0 =>
 @List.rec Value (fun _ => RR) none (fun x1 t2 _ =>
 @List.rec Value (fun _ => RR) none (fun x3 t4 _ =>
 @List.rec Value (fun _ => RR) none (fun x5 _ _ =>
 bindR (lssF x5 (Value.int .i64 (Int.ofNat 0))) fun v7 =>
 bindR (guardF false v7 (some x3) (some undef)) fun v8 =>
 bindR (guardF false v7 (some x1) (some undef)) fun v9 =>
 bindR (guardF false v7 (nilF v9) (some undef)) fun v10 =>
 bindR (guardF false v7 (addOffF 2 v10) (some undef)) fun v11 =>
 bindR (guardF false v7 (loadF s0 none v11) (some undef)) fun v12 =>
 bindR (guardF false v7 (mulF (Value.int .i64 (Int.ofNat 256)) v12) (some undef)) fun v13 =>
 bindR (guardF false v7 (convF .u64 v13) (some undef)) fun v14 =>
 bindR (guardF false v7 (gtrF v8 v14) (some undef)) fun v15 =>
 bindR (pickF (some (Value.bool true)) (some v15) v7) fun v16 =>
 bindR (guardF false v16 (some x5) (some undef)) fun v17 =>
 bindR (guardF false v16 (convF .u64 v17) (some undef)) fun v18 =>
 bindR (guardF false v16 (some x1) (some undef)) fun v19 =>
 bindR (guardF false v16 (nilF v19) (some undef)) fun v20 =>
 bindR (guardF false v16 (addOffF 2 v20) (some undef)) fun v21 =>
 bindR (guardF false v16 (loadF s0 none v21) (some undef)) fun v22 =>
 bindR (guardF false v16 (mulF (Value.int .i64 (Int.ofNat 256)) v22) (some undef)) fun v23 =>
 bindR (guardF false v16 (convF .u64 v23) (some undef)) fun v24 =>
 bindR (guardF false v16 (some x3) (some undef)) fun v25 =>
 bindR (guardF false v16 (subF v24 v25) (some undef)) fun v26 =>
 bindR (guardF false v16 (gtrF v18 v26) (some undef)) fun v27 =>
 bindR (pickF (some (Value.bool true)) (some v27) v16) fun v28 =>
 branch v28 (
 some (Value.tuple (Array.mk [(Value.slice none 0 0), (Value.int .i64 (Int.ofNat 12))]), s0)) (
 (fun (s29 : Sto) =>
 bindR (nilF x1) fun v30 =>
 bindR (addOffF 0 v30) fun v31 =>
 bindR (loadF s29 none v31) fun v32 =>
 bindR (nilF x1) fun v33 =>
 bindR (addOffF 1 v33) fun v34 =>
 bindR (loadF s29 none v34) fun v35 =>
 bindR (mulF (Value.int .i64 (Int.ofNat 256)) v35) fun v36 =>
 bindR (convF .u64 v36) fun v37 =>
 bindR (addF x3 v37) fun v38 =>
 bind2 (call 33 [v32, v38, x5] s29) fun v39 s40 =>
 bindR (extractF 0 v39) fun v41 =>
 bindR (extractF 1 v39) fun v42 =>
 some (Value.tuple (Array.mk [v41, v42]), s40)) ⟨Nat.add (Sto.next s0) 0, Sto.objs s0⟩)) t4) t2) args
theorem st81 (call : CallF) (lf : Nat) (args : List Value) (s : Sto) : g81 call lf args s = runK k81 call lf args s := by kernel_rfl
/- (*palisade/palisadelaw24.Flat).Frame -/
noncomputable def g82 : SFun := fun _ _ args s0 =>
 @List.rec Value (fun _ => RR) none (fun x1 t2 _ =>
 @List.rec Value (fun _ => RR) none (fun x3 t4 _ =>
 @List.rec Value (fun _ => RR) none (fun _ _ _ =>
 bindR (lssF x3 (Value.int .i64 (Int.ofNat 0))) fun v7 =>
 bindR (guardF false v7 (some x3) (some undef)) fun v8 =>
 bindR (guardF false v7 (some x1) (some undef)) fun v9 =>
 bindR (guardF false v7 (nilF v9) (some undef)) fun v10 =>
 bindR (guardF false v7 (addOffF 2 v10) (some undef)) fun v11 =>
 bindR (guardF false v7 (loadF s0 none v11) (some undef)) fun v12 =>
 bindR (guardF false v7 (geqF v8 v12) (some undef)) fun v13 =>
 bindR (pickF (some (Value.bool true)) (some v13) v7) fun v14 =>
 branch v14 (
 some (Value.tuple (Array.mk [(Value.int .i64 (Int.ofNat 0)), (Value.bool false)]), s0)) (
 bindR (nilF x1) fun v15 =>
 bindR (addOffF 1 v15) fun v16 =>
 bindR (loadF s0 none v16) fun v17 =>
 bindR (addF v17 x3) fun v18 =>
 some (Value.tuple (Array.mk [v18, (Value.bool true)]), s0))) t4) t2) args
theorem st82 (call : CallF) (lf : Nat) (args : List Value) (s : Sto) : g82 call lf args s = runK k82 call lf args s := by kernel_rfl
/- (*palisade/palisadelaw24.Flat).Load -/
noncomputable def g83 : SFun := fun call _ args s0 =>
 @List.rec Value (fun _ => RR) none (fun x1 t2 _ =>
 @List.rec Value (fun _ => RR) none (fun x3 t4 _ =>
 @List.rec Value (fun _ => RR) none (fun x5 _ _ =>
 bindR (nilF x1) fun v7 =>
 bindR (addOffF 2 v7) fun v8 =>
 bindR (loadF s0 none v8) fun v9 =>
 bindR (mulF (Value.int .i64 (Int.ofNat 256)) v9) fun v10 =>
 bindR (convF .u64 v10) fun v11 =>
 bindR (geqF x3 v11) fun v12 =>
 branch v12 (
 some (Value.tuple (Array.mk [(Value.int .u64 (Int.ofNat 0)), (Value.int .i64 (Int.ofNat 12))]), s0)) (
 (fun (s13 : Sto) =>
 bindR (nilF x1) fun v14 =>
 bindR (addOffF 0 v14) fun v15 =>
 bindR (loadF s13 none v15) fun v16 =>
 bindR (nilF x1) fun v17 =>
 bindR (addOffF 1 v17) fun v18 =>
 bindR (loadF s13 none v18) fun v19 =>
 bindR (mulF (Value.int .i64 (Int.ofNat 256)) v19) fun v20 =>
 bindR (convF .u64 v20) fun v21 =>
 bindR (addF x3 v21) fun v22 =>
 bind2 (call 85 [v16, v22, x5] s13) fun v23 s24 =>
 bindR (extractF 0 v23) fun v25 =>
 bindR (extractF 1 v23) fun v26 =>
 some (Value.tuple (Array.mk [v25, v26]), s24)) ⟨Nat.add (Sto.next s0) 0, Sto.objs s0⟩)) t4) t2) args
theorem st83 (call : CallF) (lf : Nat) (args : List Value) (s : Sto) : g83 call lf args s = runK k83 call lf args s := by kernel_rfl
/- (*palisade/palisadelaw24.Flat).Put -/
noncomputable def g84 : SFun := fun call _ args s0 =>
 @List.rec Value (fun _ => RR) none (fun x1 t2 _ =>
 @List.rec Value (fun _ => RR) none (fun x3 t4 _ =>
 @List.rec Value (fun _ => RR) none (fun x5 _ _ =>
 bindR (nilF x1) fun v7 =>
 bindR (addOffF 2 v7) fun v8 =>
 bindR (loadF s0 none v8) fun v9 =>
 bindR (mulF (Value.int .i64 (Int.ofNat 256)) v9) fun v10 =>
 bindR (convF .u64 v10) fun v11 =>
 bindR (gtrF x3 v11) fun v12 =>
 bindR (guardF false v12 (some x5) (some undef)) fun v13 =>
 bindR (guardF false v12 (lenF false v13) (some undef)) fun v14 =>
 bindR (guardF false v12 (convF .u64 v14) (some undef)) fun v15 =>
 bindR (guardF false v12 (some x1) (some undef)) fun v16 =>
 bindR (guardF false v12 (nilF v16) (some undef)) fun v17 =>
 bindR (guardF false v12 (addOffF 2 v17) (some undef)) fun v18 =>
 bindR (guardF false v12 (loadF s0 none v18) (some undef)) fun v19 =>
 bindR (guardF false v12 (mulF (Value.int .i64 (Int.ofNat 256)) v19) (some undef)) fun v20 =>
 bindR (guardF false v12 (convF .u64 v20) (some undef)) fun v21 =>
 bindR (guardF false v12 (some x3) (some undef)) fun v22 =>
 bindR (guardF false v12 (subF v21 v22) (some undef)) fun v23 =>
 bindR (guardF false v12 (gtrF v15 v23) (some undef)) fun v24 =>
 bindR (pickF (some (Value.bool true)) (some v24) v12) fun v25 =>
 branch v25 (
 some ((Value.int .i64 (Int.ofNat 12)), s0)) (
 (fun (s26 : Sto) =>
 bindR (nilF x1) fun v27 =>
 bindR (addOffF 0 v27) fun v28 =>
 bindR (loadF s26 none v28) fun v29 =>
 bindR (nilF x1) fun v30 =>
 bindR (addOffF 1 v30) fun v31 =>
 bindR (loadF s26 none v31) fun v32 =>
 bindR (mulF (Value.int .i64 (Int.ofNat 256)) v32) fun v33 =>
 bindR (convF .u64 v33) fun v34 =>
 bindR (addF x3 v34) fun v35 =>
 bind2 (call 36 [v29, v35, x5] s26) fun v36 s37 =>
 some (v36, s37)) ⟨Nat.add (Sto.next s0) 0, Sto.objs s0⟩)) t4) t2) args
theorem st84 (call : CallF) (lf : Nat) (args : List Value) (s : Sto) : g84 call lf args s = runK k84 call lf args s := by kernel_rfl
/- (*palisade/mem.Memory).Load -/
noncomputable def g85 : SFun := fun call _ args s0 =>
 @List.rec Value (fun _ => RR) none (fun x1 t2 _ =>
 @List.rec Value (fun _ => RR) none (fun x3 t4 _ =>
 @List.rec Value (fun _ => RR) none (fun x5 _ _ =>
 bind2 (call 58 [x1, x3, x5] s0) fun v7 s8 =>
 bindR (extractF 0 v7) fun v9 =>
 bindR (extractF 1 v7) fun v10 =>
 bindR (neqF v10 (Value.int .i64 (Int.ofNat 0))) fun v11 =>
 branch v11 (
 some (Value.tuple (Array.mk [(Value.int .u64 (Int.ofNat 0)), v10]), s8)) (
 bind2 (call 86 [v9, (Value.int .i64 (Int.ofNat 0)), x5] s8) fun v12 s13 =>
 bindR (extractF 0 v12) fun v14 =>
 bindR (extractF 1 v12) fun _ =>
 some (Value.tuple (Array.mk [v14, (Value.int .i64 (Int.ofNat 0))]), s13))) t4) t2) args
theorem st85 (call : CallF) (lf : Nat) (args : List Value) (s : Sto) : g85 call lf args s = runK k85 call lf args s := by kernel_rfl
/- palisade/word.Load -/
noncomputable def g86 : SFun := fun call lf args s0 =>
 @List.rec Value (fun _ => RR) none (fun x1 t2 _ =>
 @List.rec Value (fun _ => RR) none (fun x3 t4 _ =>
 @List.rec Value (fun _ => RR) none (fun x5 _ _ =>
 bind2 (call 65 [x5] s0) fun v7 s8 =>
 bindR (notF v7) fun v9 =>
 bindR (guardF false v9 (some x3) (some undef)) fun v10 =>
 bindR (guardF false v9 (lssF v10 (Value.int .i64 (Int.ofNat 0))) (some undef)) fun v11 =>
 bindR (pickF (some (Value.bool true)) (some v11) v9) fun v12 =>
 bindR (guardF false v12 (some x3) (some undef)) fun v13 =>
 bindR (guardF false v12 (some x1) (some undef)) fun v14 =>
 bindR (guardF false v12 (lenF false v14) (some undef)) fun v15 =>
 bindR (guardF false v12 (some x5) (some undef)) fun v16 =>
 bindR (guardF false v12 (subF v15 v16) (some undef)) fun v17 =>
 bindR (guardF false v12 (gtrF v13 v17) (some undef)) fun v18 =>
 bindR (pickF (some (Value.bool true)) (some v18) v12) fun v19 =>
 branch v19 (
 some (Value.tuple (Array.mk [(Value.int .u64 (Int.ofNat 0)), (Value.bool false)]), s8)) (
 bindR (addF x3 x5) fun v20 =>
 bindR (slSV 1 (some x3) (some v20) none x1) fun v21 =>
 bindR (lenF false v21) fun v22 =>
 joinK (fun (x23 : Value) (x24 : Value) (s25 : Sto) =>
 bindR (eqlF x23 (Value.int .i64 (Int.ofNat 4))) fun v26 =>
 joinK (fun (x27 : Value) (s28 : Sto) =>
 some (Value.tuple (Array.mk [x27, (Value.bool true)]), s28)) fun (J29 : Value → Sto → RR) => branch v26 (
 bindR (convF .i32 x24) fun v30 =>
 bindR (convF .i64 v30) fun v31 =>
 bindR (convF .u64 v31) fun v32 =>
 J29 v32 s25) (
 J29 x24 s25)) fun (J33 : Value → Value → Sto → RR) =>
 (@Nat.rec (fun _ => Value → Value → Value → Value → Value → Sto → RR) (fun _ _ _ _ _ _ => none) (fun _ J34 => fun (x35 : Value) (x36 : Value) (x37 : Value) (x38 : Value) (x39 : Value) (s40 : Sto) =>
 bindR (lssF x39 x38) fun v41 =>
 branch v41 (
 joinK (fun (x42 : Value) (x43 : Value) (x44 : Value) (x45 : Value) (x46 : Value) (s47 : Sto) =>
 bindR (addF x46 (Value.int .i64 (Int.ofNat 1))) fun v48 =>
 J34 x42 x43 x44 x45 v48 s47) fun (J49 : Value → Value → Value → Value → Value → Sto → RR) =>
 bindR (ixSF 1 x37 x39) fun v50 =>
 bindR (loadF s40 none v50) fun v51 =>
 bindR (convF .u64 v51) fun v52 =>
 bindR (mulF (Value.int .i64 (Int.ofNat 8)) x39) fun v53 =>
 bindR (shlF v52 v53) fun v54 =>
 bindR (orF x36 v54) fun v55 =>
 J49 x35 v55 x37 x38 x39 s40) (
 J33 x35 x36 s40)) lf) x5 (Value.int .u64 (Int.ofNat 0)) v21 v22 (Value.int .i64 (Int.ofNat 0)) s8)) t4) t2) args
theorem st86 (call : CallF) (lf : Nat) (args : List Value) (s : Sto) : g86 call lf args s = runK k86 call lf args s := by kernel_rfl
noncomputable def gL : List (Nat × SFun) := [(3, g3), (5, g5), (6, g6), (7, g7), (8, g8), (9, g9), (10, g10), (11, g11), (12, g12), (14, g14), (16, g16), (17, g17), (18, g18), (19, g19), (20, g20), (21, g21), (22, g22), (23, g23), (24, g24), (25, g25), (26, g26), (27, g27), (28, g28), (29, g29), (30, g30), (31, g31), (32, g32), (33, g33), (34, g34), (35, g35), (36, g36), (37, g37), (38, g38), (39, g39), (40, g40), (41, g41), (42, g42), (43, g43), (44, g44), (45, g45), (46, g46), (47, g47), (48, g48), (49, g49), (50, g50), (51, g51), (52, g52), (53, g53), (54, g54), (55, g55), (56, g56), (57, g57), (58, g58), (59, g59), (60, g60), (61, g61), (62, g62), (63, g63), (64, g64), (65, g65), (81, g81), (82, g82), (83, g83), (84, g84), (85, g85), (86, g86)]
theorem gents : ∀ p ∈ gL, ∃ k : KFunc, plainA A p.1 = some k.erase ∧ ∀ call lf args s, p.2 call lf args s = runK k call lf args s :=
  List.forall_mem_cons.2 ⟨⟨k3, by kernel_rfl, st3⟩,
  List.forall_mem_cons.2 ⟨⟨k5, by kernel_rfl, st5⟩,
  List.forall_mem_cons.2 ⟨⟨k6, by kernel_rfl, st6⟩,
  List.forall_mem_cons.2 ⟨⟨k7, by kernel_rfl, st7⟩,
  List.forall_mem_cons.2 ⟨⟨k8, by kernel_rfl, st8⟩,
  List.forall_mem_cons.2 ⟨⟨k9, by kernel_rfl, st9⟩,
  List.forall_mem_cons.2 ⟨⟨k10, by kernel_rfl, st10⟩,
  List.forall_mem_cons.2 ⟨⟨k11, by kernel_rfl, st11⟩,
  List.forall_mem_cons.2 ⟨⟨k12, by kernel_rfl, st12⟩,
  List.forall_mem_cons.2 ⟨⟨k14, by kernel_rfl, st14⟩,
  List.forall_mem_cons.2 ⟨⟨k16, by kernel_rfl, st16⟩,
  List.forall_mem_cons.2 ⟨⟨k17, by kernel_rfl, st17⟩,
  List.forall_mem_cons.2 ⟨⟨k18, by kernel_rfl, st18⟩,
  List.forall_mem_cons.2 ⟨⟨k19, by kernel_rfl, st19⟩,
  List.forall_mem_cons.2 ⟨⟨k20, by kernel_rfl, st20⟩,
  List.forall_mem_cons.2 ⟨⟨k21, by kernel_rfl, st21⟩,
  List.forall_mem_cons.2 ⟨⟨k22, by kernel_rfl, st22⟩,
  List.forall_mem_cons.2 ⟨⟨k23, by kernel_rfl, st23⟩,
  List.forall_mem_cons.2 ⟨⟨k24, by kernel_rfl, st24⟩,
  List.forall_mem_cons.2 ⟨⟨k25, by kernel_rfl, st25⟩,
  List.forall_mem_cons.2 ⟨⟨k26, by kernel_rfl, st26⟩,
  List.forall_mem_cons.2 ⟨⟨k27, by kernel_rfl, st27⟩,
  List.forall_mem_cons.2 ⟨⟨k28, by kernel_rfl, st28⟩,
  List.forall_mem_cons.2 ⟨⟨k29, by kernel_rfl, st29⟩,
  List.forall_mem_cons.2 ⟨⟨k30, by kernel_rfl, st30⟩,
  List.forall_mem_cons.2 ⟨⟨k31, by kernel_rfl, st31⟩,
  List.forall_mem_cons.2 ⟨⟨k32, by kernel_rfl, st32⟩,
  List.forall_mem_cons.2 ⟨⟨k33, by kernel_rfl, st33⟩,
  List.forall_mem_cons.2 ⟨⟨k34, by kernel_rfl, st34⟩,
  List.forall_mem_cons.2 ⟨⟨k35, by kernel_rfl, st35⟩,
  List.forall_mem_cons.2 ⟨⟨k36, by kernel_rfl, st36⟩,
  List.forall_mem_cons.2 ⟨⟨k37, by kernel_rfl, st37⟩,
  List.forall_mem_cons.2 ⟨⟨k38, by kernel_rfl, st38⟩,
  List.forall_mem_cons.2 ⟨⟨k39, by kernel_rfl, st39⟩,
  List.forall_mem_cons.2 ⟨⟨k40, by kernel_rfl, st40⟩,
  List.forall_mem_cons.2 ⟨⟨k41, by kernel_rfl, st41⟩,
  List.forall_mem_cons.2 ⟨⟨k42, by kernel_rfl, st42⟩,
  List.forall_mem_cons.2 ⟨⟨k43, by kernel_rfl, st43⟩,
  List.forall_mem_cons.2 ⟨⟨k44, by kernel_rfl, st44⟩,
  List.forall_mem_cons.2 ⟨⟨k45, by kernel_rfl, st45⟩,
  List.forall_mem_cons.2 ⟨⟨k46, by kernel_rfl, st46⟩,
  List.forall_mem_cons.2 ⟨⟨k47, by kernel_rfl, st47⟩,
  List.forall_mem_cons.2 ⟨⟨k48, by kernel_rfl, st48⟩,
  List.forall_mem_cons.2 ⟨⟨k49, by kernel_rfl, st49⟩,
  List.forall_mem_cons.2 ⟨⟨k50, by kernel_rfl, st50⟩,
  List.forall_mem_cons.2 ⟨⟨k51, by kernel_rfl, st51⟩,
  List.forall_mem_cons.2 ⟨⟨k52, by kernel_rfl, st52⟩,
  List.forall_mem_cons.2 ⟨⟨k53, by kernel_rfl, st53⟩,
  List.forall_mem_cons.2 ⟨⟨k54, by kernel_rfl, st54⟩,
  List.forall_mem_cons.2 ⟨⟨k55, by kernel_rfl, st55⟩,
  List.forall_mem_cons.2 ⟨⟨k56, by kernel_rfl, st56⟩,
  List.forall_mem_cons.2 ⟨⟨k57, by kernel_rfl, st57⟩,
  List.forall_mem_cons.2 ⟨⟨k58, by kernel_rfl, st58⟩,
  List.forall_mem_cons.2 ⟨⟨k59, by kernel_rfl, st59⟩,
  List.forall_mem_cons.2 ⟨⟨k60, by kernel_rfl, st60⟩,
  List.forall_mem_cons.2 ⟨⟨k61, by kernel_rfl, st61⟩,
  List.forall_mem_cons.2 ⟨⟨k62, by kernel_rfl, st62⟩,
  List.forall_mem_cons.2 ⟨⟨k63, by kernel_rfl, st63⟩,
  List.forall_mem_cons.2 ⟨⟨k64, by kernel_rfl, st64⟩,
  List.forall_mem_cons.2 ⟨⟨k65, by kernel_rfl, st65⟩,
  List.forall_mem_cons.2 ⟨⟨k81, by kernel_rfl, st81⟩,
  List.forall_mem_cons.2 ⟨⟨k82, by kernel_rfl, st82⟩,
  List.forall_mem_cons.2 ⟨⟨k83, by kernel_rfl, st83⟩,
  List.forall_mem_cons.2 ⟨⟨k84, by kernel_rfl, st84⟩,
  List.forall_mem_cons.2 ⟨⟨k85, by kernel_rfl, st85⟩,
  List.forall_mem_cons.2 ⟨⟨k86, by kernel_rfl, st86⟩,
  fun _ h => nomatch h⟩⟩⟩⟩⟩⟩⟩⟩⟩⟩⟩⟩⟩⟩⟩⟩⟩⟩⟩⟩⟩⟩⟩⟩⟩⟩⟩⟩⟩⟩⟩⟩⟩⟩⟩⟩⟩⟩⟩⟩⟩⟩⟩⟩⟩⟩⟩⟩⟩⟩⟩⟩⟩⟩⟩⟩⟩⟩⟩⟩⟩⟩⟩⟩⟩⟩
noncomputable def gtab : Tr SFun := (.node none (.node none (.node (some g3) (.node (some g7) (.node none (.node (some g31) (.node (some g63) .leaf .leaf) .leaf) (.node (some g47) .leaf .leaf)) (.node (some g23) (.node (some g39) .leaf .leaf) (.node (some g55) .leaf .leaf))) (.node (some g11) (.node (some g19) (.node (some g35) .leaf .leaf) (.node (some g51) (.node (some g83) .leaf .leaf) .leaf)) (.node (some g27) (.node (some g43) .leaf .leaf) (.node (some g59) .leaf .leaf)))) (.node (some g5) (.node (some g9) (.node (some g17) (.node (some g33) (.node (some g65) .leaf .leaf) .leaf) (.node (some g49) (.node (some g81) .leaf .leaf) .leaf)) (.node (some g25) (.node (some g41) .leaf .leaf) (.node (some g57) .leaf .leaf))) (.node none (.node (some g21) (.node (some g37) .leaf .leaf) (.node (some g53) (.node (some g85) .leaf .leaf) .leaf)) (.node (some g29) (.node (some g45) .leaf .leaf) (.node (some g61) .leaf .leaf))))) (.node none (.node none (.node (some g8) (.node (some g16) (.node (some g32) (.node (some g64) .leaf .leaf) .leaf) (.node (some g48) .leaf .leaf)) (.node (some g24) (.node (some g40) .leaf .leaf) (.node (some g56) .leaf .leaf))) (.node (some g12) (.node (some g20) (.node (some g36) .leaf .leaf) (.node (some g52) (.node (some g84) .leaf .leaf) .leaf)) (.node (some g28) (.node (some g44) .leaf .leaf) (.node (some g60) .leaf .leaf)))) (.node (some g6) (.node (some g10) (.node (some g18) (.node (some g34) .leaf .leaf) (.node (some g50) (.node (some g82) .leaf .leaf) .leaf)) (.node (some g26) (.node (some g42) .leaf .leaf) (.node (some g58) .leaf .leaf))) (.node (some g14) (.node (some g22) (.node (some g38) .leaf .leaf) (.node (some g54) (.node (some g86) .leaf .leaf) .leaf)) (.node (some g30) (.node (some g46) .leaf .leaf) (.node (some g62) .leaf .leaf))))))
theorem gtab_eq : gtab = Tr.ofPairs gL .leaf := by kernel_rfl
theorem staged : StagedOK gtab (plainA A) := staged_of_list gL gents gtab_eq
theorem noneA : ∀ f, gtab.get f = none → plainA A f = none := none_of_lists (l := tableL) (l' := gL) (by kernel_rfl) gtab_eq
end Go.Proofs.YtjilfolpkkhfmaaDoor.Tab
