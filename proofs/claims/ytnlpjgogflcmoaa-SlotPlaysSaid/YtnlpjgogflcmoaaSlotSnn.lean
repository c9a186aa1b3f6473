/- One way through the drawn region of SlotPlays. Condition: the places and the document's row agree (Sp). -/
import Derived.Test.YtnlpjgogflcmoaaSlotS
import Derived.Deep.RegionHeld3
namespace Go.Proofs.Ytnlpjgogflcmoaa
open Go.RowKit Go.Lk
set_option maxRecDepth 100000 in
set_option maxHeartbeats 8000000 in
theorem reg36nn (w w4 : World) (bs n gx cx ba b25 : Nat) (qx : List (Option It)) (kd now : Int) (x : It) (hX4 : Sp w w4 bs n qx qx gx ba kd now x) (hY : w4.heap[b25]? = some (.cells It.zero.arr 29 (0, 0)))
    (K : Act → World → Prop) (Q : Exit → Act → World → Prop) (hQ : ∀ c (a : Act) (d : Tmp) v w, Q (.panic c) (a.put (some d) v) w → Q (.panic c) a w) (v0 v1 v2 v3 v4 v6 v8 v10 v11 v12 v13 v14 v15 v16 v17 v18 v19 v20 v21 v28 v29 v30 v31 v32 v33 v34 v35 v36 v37 v38 v39 v40 v41 v42 v43 v44 v45 v46 v47 v48 v49 v50 v51 v52 v53 v54 v55 v56 v57 v58 v59 v60 v61 v62 v63 v64 v65 v66 v67 v68 v69 v70 v71 v72 v73 v74 v75 v76 v77 v78 v79 v80 v81 v82 v83 v84 v85 v86 v87 v88 v89 v90 v91 v92 v93 v94 v95 v96 v97 v98 v99 v100 v101 v102 v103 v104 v105 v106 v107 v108 v109 v110 v111 v112 v113 v114 v115 v116 v117 v118 v119 v120 v121 v122 v123 v124 v125 v126 v127 v128 v129 v130 v131 v132 v133 v134 v135 v136 v137 v138 v139 v140 v141 v142 v143 v144 v145 v146 v147 v148 v149 v150 v151 v152 v153 v154 v155 v156 v157 v158 v159 v160 v161 v162 v163 v164 v165 v166 v167 v168 v169 v170 v171 v172 v173 v174 v175 v176 v177 v178 v179 v180 v181 v182 v183 v184 v185 v186 v187 v188 v189 v190 v191 v192 v193 v194 v195 v196 v197 v198 v199 v200 v201 v202 v203 v204 v205 v206 v207 v208 v209 v210 v211 v212 v213 v214 v215 v216 v217 v218 v219 v220 v221 v222 v223 v224 v225 v226 v227 v228 v229 v230 v231 v232 v233 v234 v235 v236 v237 v238 v239 v240 v241 v242 v243 v244 v245 v246 : Value)
    (hK : ∀ (u180 u181 u182 u183 u184 u185 u186 u187 u188 u189 u190 u191 u192 u193 u194 u195 u196 u197 u198 u199 u200 u201 u202 u203 u204 u205 u206 u207 u208 u209 u210 u211 u212 u213 u214 u215 u216 u217 u218 u219 u220 u221 u222 u223 u224 u225 u226 u227 u228 u229 u230 u231 u232 u233 u234 u235 u236 u237 u238 u239 u240 : Value) (w' : World), Sp w w' bs n qx qx gx ba kd now x → K ⟨#[v0, v1, v2, v3, v4, .pointer (some ⟨bs, 0, none⟩), v6, .slice (some ⟨gx, 0, none⟩) n cx, v8, .pointer (some ⟨ba, 0, none⟩), v10, v11, v12, v13, v14, v15, v16, v17, v18, v19, v20, v21, .int .i64 (-1), .int .i64 0, .bool false, .pointer (some ⟨b25, 0, none⟩), .bool false, .bool false, v28, v29, v30, v31, v32, v33, v34, v35, v36, v37, v38, v39, v40, v41, v42, v43, v44, v45, v46, v47, v48, v49, v50, v51, v52, v53, v54, v55, v56, v57, v58, v59, v60, v61, v62, v63, v64, v65, v66, v67, v68, v69, v70, v71, v72, v73, v74, v75, v76, v77, v78, v79, v80, v81, v82, v83, v84, v85, v86, v87, v88, v89, v90, v91, v92, v93, v94, v95, v96, v97, v98, v99, v100, v101, v102, v103, v104, v105, v106, v107, v108, v109, v110, v111, v112, v113, v114, v115, v116, v117, v118, v119, v120, v121, v122, v123, v124, v125, v126, v127, v128, v129, v130, v131, v132, v133, v134, v135, v136, v137, v138, v139, v140, v141, v142, v143, v144, v145, v146, v147, v148, v149, v150, v151, v152, v153, v154, v155, v156, v157, v158, v159, v160, v161, v162, v163, v164, v165, v166, v167, v168, v169, v170, v171, v172, v173, v174, v175, v176, v177, v178, v179, u180, u181, u182, u183, u184, u185, u186, u187, u188, u189, u190, u191, u192, u193, u194, u195, u196, u197, u198, u199, u200, u201, u202, u203, u204, u205, u206, u207, u208, u209, u210, u211, u212, u213, u214, u215, u216, u217, u218, u219, u220, u221, u222, u223, u224, u225, u226, u227, u228, u229, u230, u231, u232, u233, u234, u235, u236, u237, u238, u239, u240, .bool false, v242, v243, v244, v245, v246], []⟩ w') (co : Code) (hco : (Try.f4.body.bind (regionOf 36)) = some co) :
    Code.wp Try.prog co (Exit.then K Q) ⟨#[v0, v1, v2, v3, v4, .pointer (some ⟨bs, 0, none⟩), v6, .slice (some ⟨gx, 0, none⟩) n cx, v8, .pointer (some ⟨ba, 0, none⟩), v10, v11, v12, v13, v14, v15, v16, v17, v18, v19, v20, v21, .int .i64 (-1), .int .i64 0, .bool false, .pointer (some ⟨b25, 0, none⟩), .bool false, .bool false, v28, v29, v30, v31, v32, v33, v34, v35, v36, v37, v38, v39, v40, v41, v42, v43, v44, v45, v46, v47, v48, v49, v50, v51, v52, v53, v54, v55, v56, v57, v58, v59, v60, v61, v62, v63, v64, v65, v66, v67, v68, v69, v70, v71, v72, v73, v74, v75, v76, v77, v78, v79, v80, v81, v82, v83, v84, v85, v86, v87, v88, v89, v90, v91, v92, v93, v94, v95, v96, v97, v98, v99, v100, v101, v102, v103, v104, v105, v106, v107, v108, v109, v110, v111, v112, v113, v114, v115, v116, v117, v118, v119, v120, v121, v122, v123, v124, v125, v126, v127, v128, v129, v130, v131, v132, v133, v134, v135, v136, v137, v138, v139, v140, v141, v142, v143, v144, v145, v146, v147, v148, v149, v150, v151, v152, v153, v154, v155, v156, v157, v158, v159, v160, v161, v162, v163, v164, v165, v166, v167, v168, v169, v170, v171, v172, v173, v174, v175, v176, v177, v178, v179, v180, v181, v182, v183, v184, v185, v186, v187, v188, v189, v190, v191, v192, v193, v194, v195, v196, v197, v198, v199, v200, v201, v202, v203, v204, v205, v206, v207, v208, v209, v210, v211, v212, v213, v214, v215, v216, v217, v218, v219, v220, v221, v222, v223, v224, v225, v226, v227, v228, v229, v230, v231, v232, v233, v234, v235, v236, v237, v238, v239, v240, v241, v242, v243, v244, v245, v246], []⟩ w4 := by
  have hce : some co = some (Code.region 36 _ true) := hco.symm.trans rfl
  injection hce with hce
  subst hce
  clear hco
  have HLE : Hid ((itq qx).length ≤ 16) := by have h2 := itq_le qx; have h3 := hX4.on.sq.len; have h4 := hX4.on.sq.small; show _ ≤ _; omega
  have HK := Lib.hid hK
  have HX4 := Lib.hid hX4
  have HY := Lib.hid hY


  clear hX4 hY hK
  have KEEP : Hid (∀ wa wb : World, ((Sp w wa bs n qx qx gx ba kd now x ∧ wa.heap[b25]? = some (.cells It.zero.arr 29 (0, 0))) ∧ wa.cell? ⟨b25, 0, none⟩ = some (.int .i64 0) ∧ wa.cell? ⟨b25, 1, none⟩ = some (.int .i64 0) ∧ wa.cell? ⟨b25, 2, none⟩ = some (.int .i64 0) ∧ wa.cell? ⟨b25, 3, none⟩ = some (.int .i64 0) ∧ wa.cell? ⟨b25, 4, none⟩ = some (.int .i64 0) ∧ wa.cell? ⟨b25, 5, none⟩ = some (.int .i64 0) ∧ wa.cell? ⟨b25, 6, none⟩ = some (.int .i64 0)) → Below wa.heap.size wa wb → ((Sp w wb bs n qx qx gx ba kd now x ∧ wb.heap[b25]? = some (.cells It.zero.arr 29 (0, 0))) ∧ wb.cell? ⟨b25, 0, none⟩ = some (.int .i64 0) ∧ wb.cell? ⟨b25, 1, none⟩ = some (.int .i64 0) ∧ wb.cell? ⟨b25, 2, none⟩ = some (.int .i64 0) ∧ wb.cell? ⟨b25, 3, none⟩ = some (.int .i64 0) ∧ wb.cell? ⟨b25, 4, none⟩ = some (.int .i64 0) ∧ wb.cell? ⟨b25, 5, none⟩ = some (.int .i64 0) ∧ wb.cell? ⟨b25, 6, none⟩ = some (.int .i64 0))) := by
    intro wa wb hs hb
    have h1 := hs.1.1.calm hb
    have h2 : wb.heap[b25]? = _ := (hb.block _ (heap_lt hs.1.2)).trans hs.1.2
    obtain ⟨y0, y1, y2, y3, y4, y5, y6⟩ := It.cell _ h2
    exact ⟨⟨h1, h2⟩, y0, y1, y2, y3, y4, y5, y6⟩
  have HALL : Hid (∀ W : World, ((Sp w W bs n qx qx gx ba kd now x ∧ W.heap[b25]? = some (.cells It.zero.arr 29 (0, 0))) ∧ W.cell? ⟨b25, 0, none⟩ = some (.int .i64 0) ∧ W.cell? ⟨b25, 1, none⟩ = some (.int .i64 0) ∧ W.cell? ⟨b25, 2, none⟩ = some (.int .i64 0) ∧ W.cell? ⟨b25, 3, none⟩ = some (.int .i64 0) ∧ W.cell? ⟨b25, 4, none⟩ = some (.int .i64 0) ∧ W.cell? ⟨b25, 5, none⟩ = some (.int .i64 0) ∧ W.cell? ⟨b25, 6, none⟩ = some (.int .i64 0)) → Calls Try.prog 11 #[.pointer (some ⟨bs, 0, none⟩)] W fun e w' => ∃ u, e = .returned u ∧ w'.ownsRow W.heap.size 29 7 u (itq qx).length (itc (itq qx)) ∧ Below W.heap.size W w') := fun W h => q_all bs n qx W h.1.1.on.sq
  have HRALL : Hid (∀ W : World, ((Sp w W bs n qx qx gx ba kd now x ∧ W.heap[b25]? = some (.cells It.zero.arr 29 (0, 0))) ∧ W.cell? ⟨b25, 0, none⟩ = some (.int .i64 0) ∧ W.cell? ⟨b25, 1, none⟩ = some (.int .i64 0) ∧ W.cell? ⟨b25, 2, none⟩ = some (.int .i64 0) ∧ W.cell? ⟨b25, 3, none⟩ = some (.int .i64 0) ∧ W.cell? ⟨b25, 4, none⟩ = some (.int .i64 0) ∧ W.cell? ⟨b25, 5, none⟩ = some (.int .i64 0) ∧ W.cell? ⟨b25, 6, none⟩ = some (.int .i64 0)) → Calls Try.prog 21 #[.slice (some ⟨gx, 0, none⟩) n cx] W fun e w' => ∃ u, e = .returned u ∧ w'.ownsRow W.heap.size 29 7 u (itq qx).length (itc (itq qx)) ∧ Below W.heap.size W w') := fun W h => r_all W gx n cx qx h.1.1.row
  have HFREE : Hid (∀ W : World, ((Sp w W bs n qx qx gx ba kd now x ∧ W.heap[b25]? = some (.cells It.zero.arr 29 (0, 0))) ∧ W.cell? ⟨b25, 0, none⟩ = some (.int .i64 0) ∧ W.cell? ⟨b25, 1, none⟩ = some (.int .i64 0) ∧ W.cell? ⟨b25, 2, none⟩ = some (.int .i64 0) ∧ W.cell? ⟨b25, 3, none⟩ = some (.int .i64 0) ∧ W.cell? ⟨b25, 4, none⟩ = some (.int .i64 0) ∧ W.cell? ⟨b25, 5, none⟩ = some (.int .i64 0) ∧ W.cell? ⟨b25, 6, none⟩ = some (.int .i64 0)) → Calls Try.prog 12 #[.pointer (some ⟨bs, 0, none⟩)] W fun e w' => e = .returned (.int .i64 ((n : Int) - ((itq qx).length : Int))) ∧ Below W.heap.size W w') := fun W h => q_free bs n qx W h.1.1.on.sq
  have HRFREE : Hid (∀ W : World, ((Sp w W bs n qx qx gx ba kd now x ∧ W.heap[b25]? = some (.cells It.zero.arr 29 (0, 0))) ∧ W.cell? ⟨b25, 0, none⟩ = some (.int .i64 0) ∧ W.cell? ⟨b25, 1, none⟩ = some (.int .i64 0) ∧ W.cell? ⟨b25, 2, none⟩ = some (.int .i64 0) ∧ W.cell? ⟨b25, 3, none⟩ = some (.int .i64 0) ∧ W.cell? ⟨b25, 4, none⟩ = some (.int .i64 0) ∧ W.cell? ⟨b25, 5, none⟩ = some (.int .i64 0) ∧ W.cell? ⟨b25, 6, none⟩ = some (.int .i64 0)) → Calls Try.prog 22 #[.slice (some ⟨gx, 0, none⟩) n cx] W fun e w' => e = .returned (.int .i64 ((n : Int) - ((itq qx).length : Int))) ∧ Below W.heap.size W w') := fun W h => r_free_below W gx n cx qx h.1.1.row
  have hS0 : (Sp w w4 bs n qx qx gx ba kd now x ∧ w4.heap[b25]? = some (.cells It.zero.arr 29 (0, 0))) ∧ w4.cell? ⟨b25, 0, none⟩ = some (.int .i64 0) ∧ w4.cell? ⟨b25, 1, none⟩ = some (.int .i64 0) ∧ w4.cell? ⟨b25, 2, none⟩ = some (.int .i64 0) ∧ w4.cell? ⟨b25, 3, none⟩ = some (.int .i64 0) ∧ w4.cell? ⟨b25, 4, none⟩ = some (.int .i64 0) ∧ w4.cell? ⟨b25, 5, none⟩ = some (.int .i64 0) ∧ w4.cell? ⟨b25, 6, none⟩ = some (.int .i64 0) := by
    obtain ⟨y0, y1, y2, y3, y4, y5, y6⟩ := It.cell _ HY.out
    exact ⟨⟨HX4.out, HY.out⟩, y0, y1, y2, y3, y4, y5, y6⟩
  have hdr := (Below.refl w4.heap.size w4).drew
  clear HX4 HY
  refine wp_region_held_drew (S := fun W : World => (Sp w W bs n qx qx gx ba kd now x ∧ W.heap[b25]? = some (.cells It.zero.arr 29 (0, 0))) ∧ W.cell? ⟨b25, 0, none⟩ = some (.int .i64 0) ∧ W.cell? ⟨b25, 1, none⟩ = some (.int .i64 0) ∧ W.cell? ⟨b25, 2, none⟩ = some (.int .i64 0) ∧ W.cell? ⟨b25, 3, none⟩ = some (.int .i64 0) ∧ W.cell? ⟨b25, 4, none⟩ = some (.int .i64 0) ∧ W.cell? ⟨b25, 5, none⟩ = some (.int .i64 0) ∧ W.cell? ⟨b25, 6, none⟩ = some (.int .i64 0)) (by kernel_rfl) (KEEP.out _ _ hS0 hdr) (fun hHeld => ?_)
  clear hS0 hdr
  refine wpAnyH_take (i := 0) (v := .pointer (some ⟨bs, 0, none⟩)) (by simp only [List.getElem?_toArray, List.getElem?_cons_zero]; exact rfl) (by kernel_rfl) (by kernel_rfl) (by kernel_rfl) (by intro c a w h; exact hQ c a _ _ w h) (Or.inl ⟨by rfl, ?_⟩) (by assumption) ?_
  · intro W hSw
    go_simp
  try simp only [Act.put, List.setIfInBounds_toArray, List.set_cons_zero, List.set_cons_succ]
  refine wpAnyH_take (i := 2) (v := .slice (some ⟨gx, 0, none⟩) n cx) (by simp only [List.getElem?_toArray, List.getElem?_cons_succ, List.getElem?_cons_zero]; exact rfl) (by kernel_rfl) (by kernel_rfl) (by kernel_rfl) (by intro c a w h; exact hQ c a _ _ w h) (Or.inl ⟨by rfl, ?_⟩) (by assumption) ?_
  · intro W hSw
    go_simp
  try simp only [Act.put, List.setIfInBounds_toArray, List.set_cons_zero, List.set_cons_succ]
  refine wpAnyH_ready (rs := [1]) (by kernel_rfl) (by simp) ?_
  refine AllReadyH.cons (by simp only [List.getElem?_toArray, List.getElem?_cons_succ, List.getElem?_cons_zero]; exact rfl) (fun K9 hK9 => ?_) AllReadyH.nil
  go_simp
  go_at_call 11; refine (HALL.out _ (by assumption)).mono ?_; rintro e w5 ⟨u5, rfl, hown5, hB5⟩
  go_simp
  refine hK9.out _ _ (KEEP.out _ _ (by assumption) (by assumption)) (fun hHeld => ?_)
  clear hK9 K9
  try simp only [Act.put, List.setIfInBounds_toArray, List.set_cons_zero, List.set_cons_succ]
  refine wpAnyH_ready (rs := [3]) (by kernel_rfl) (by simp) ?_
  refine AllReadyH.cons (by simp only [List.getElem?_toArray, List.getElem?_cons_succ, List.getElem?_cons_zero]; exact rfl) (fun K9 hK9 => ?_) AllReadyH.nil
  go_simp
  go_at_call 21; refine (HRALL.out _ (by assumption)).mono ?_; rintro e w6 ⟨u6, rfl, hown6, hB6⟩
  go_simp
  refine hK9.out _ _ (KEEP.out _ _ (by assumption) (by assumption)) (fun hHeld => ?_)
  clear hK9 K9
  try simp only [Act.put, List.setIfInBounds_toArray, List.set_cons_zero, List.set_cons_succ]
  refine wpAnyH_ready (rs := [4]) (by kernel_rfl) (by simp) ?_
  refine AllReadyH.cons (by simp only [List.getElem?_toArray, List.getElem?_cons_succ, List.getElem?_cons_zero]; exact rfl) (fun K9 hK9 => ?_) AllReadyH.nil
  go_simp
  go_at_call 18; refine (same_below _ _ _ u5 u6 (itq qx) HLE.out ((OnlyIn.of_below (S := []) hB6).own hown5 (by simp)) hown6).mono ?_; rintro e w7 ⟨rfl, hB7⟩
  go_simp
  refine hK9.out _ _ (KEEP.out _ _ (by assumption) (by assumption)) (fun hHeld => ?_)
  clear hK9 K9
  try simp only [Act.put, List.setIfInBounds_toArray, List.set_cons_zero, List.set_cons_succ]
  refine wpAnyH_take (i := 5) (v := .bool false) (by simp only [List.getElem?_toArray, List.getElem?_cons_succ, List.getElem?_cons_zero]; exact rfl) (by kernel_rfl) (by kernel_rfl) (by kernel_rfl) (by intro c a w h; exact hQ c a _ _ w h) (Or.inl ⟨by rfl, ?_⟩) (by assumption) ?_
  · intro W hSw
    go_simp
  try simp only [Act.put, List.setIfInBounds_toArray, List.set_cons_zero, List.set_cons_succ]
  refine wpAnyH_take (i := 6) (v := .bool false) (by simp only [List.getElem?_toArray, List.getElem?_cons_succ, List.getElem?_cons_zero]; exact rfl) (by kernel_rfl) (by kernel_rfl) (by kernel_rfl) (by intro c a w h; exact hQ c a _ _ w h) (Or.inl ⟨by rfl, ?_⟩) (by assumption) ?_
  · intro W hSw
    go_simp
  try simp only [Act.put, List.setIfInBounds_toArray, List.set_cons_zero, List.set_cons_succ]
  refine wpAnyH_take (i := 7) (v := .pointer (some ⟨bs, 0, none⟩)) (by simp only [List.getElem?_toArray, List.getElem?_cons_succ, List.getElem?_cons_zero]; exact rfl) (by kernel_rfl) (by kernel_rfl) (by kernel_rfl) (by intro c a w h; exact hQ c a _ _ w h) (Or.inl ⟨by rfl, ?_⟩) (by assumption) ?_
  · intro W hSw
    go_simp
  try simp only [Act.put, List.setIfInBounds_toArray, List.set_cons_zero, List.set_cons_succ]
  refine wpAnyH_take (i := 9) (v := .slice (some ⟨gx, 0, none⟩) n cx) (by simp only [List.getElem?_toArray, List.getElem?_cons_succ, List.getElem?_cons_zero]; exact rfl) (by kernel_rfl) (by kernel_rfl) (by kernel_rfl) (by intro c a w h; exact hQ c a _ _ w h) (Or.inl ⟨by rfl, ?_⟩) (by assumption) ?_
  · intro W hSw
    go_simp
  try simp only [Act.put, List.setIfInBounds_toArray, List.set_cons_zero, List.set_cons_succ]
  refine wpAnyH_ready (rs := [8]) (by kernel_rfl) (by simp) ?_
  refine AllReadyH.cons (by simp only [List.getElem?_toArray, List.getElem?_cons_succ, List.getElem?_cons_zero]; exact rfl) (fun K9 hK9 => ?_) AllReadyH.nil
  go_simp
  go_at_call 12; refine (HFREE.out _ (by assumption)).mono ?_; rintro e w8 ⟨rfl, hB8⟩
  go_simp
  refine hK9.out _ _ (KEEP.out _ _ (by assumption) (by assumption)) (fun hHeld => ?_)
  clear hK9 K9
  try simp only [Act.put, List.setIfInBounds_toArray, List.set_cons_zero, List.set_cons_succ]
  refine wpAnyH_ready (rs := [10]) (by kernel_rfl) (by simp) ?_
  refine AllReadyH.cons (by simp only [List.getElem?_toArray, List.getElem?_cons_succ, List.getElem?_cons_zero]; exact rfl) (fun K9 hK9 => ?_) AllReadyH.nil
  go_simp
  go_at_call 22; refine (HRFREE.out _ (by assumption)).mono ?_; rintro e w9 ⟨rfl, hB9⟩
  go_simp
  refine hK9.out _ _ (KEEP.out _ _ (by assumption) (by assumption)) (fun hHeld => ?_)
  clear hK9 K9
  try simp only [Act.put, List.setIfInBounds_toArray, List.set_cons_zero, List.set_cons_succ]
  refine wpAnyH_take (i := 11) (v := .bool false) (by simp only [List.getElem?_toArray, List.getElem?_cons_succ, List.getElem?_cons_zero]; exact rfl) (by kernel_rfl) (by kernel_rfl) (by kernel_rfl) (by intro c a w h; exact hQ c a _ _ w h) (Or.inl ⟨by rfl, ?_⟩) (by assumption) ?_
  · intro W hSw
    go_simp
  try simp only [Act.put, List.setIfInBounds_toArray, List.set_cons_zero, List.set_cons_succ]
  refine wpAnyH_take (i := 12) (v := .bool false) (by simp only [List.getElem?_toArray, List.getElem?_cons_succ, List.getElem?_cons_zero]; exact rfl) (by kernel_rfl) (by kernel_rfl) (by kernel_rfl) (by intro c a w h; exact hQ c a _ _ w h) (Or.inl ⟨by rfl, ?_⟩) (by assumption) ?_
  · intro W hSw
    go_simp
  try simp only [Act.put, List.setIfInBounds_toArray, List.set_cons_zero, List.set_cons_succ]
  refine wpAnyH_take (i := 13) (v := .bool false) (by simp only [List.getElem?_toArray, List.getElem?_cons_succ, List.getElem?_cons_zero]; exact rfl) (by kernel_rfl) (by kernel_rfl) (by kernel_rfl) (by intro c a w h; exact hQ c a _ _ w h) (Or.inl ⟨by rfl, ?_⟩) (by assumption) ?_
  · intro W hSw
    go_simp
  try simp only [Act.put, List.setIfInBounds_toArray, List.set_cons_zero, List.set_cons_succ]
  refine wpAnyH_take (i := 14) (v := .bool false) (by simp only [List.getElem?_toArray, List.getElem?_cons_succ, List.getElem?_cons_zero]; exact rfl) (by kernel_rfl) (by kernel_rfl) (by kernel_rfl) (by intro c a w h; exact hQ c a _ _ w h) (Or.inl ⟨by rfl, ?_⟩) (by assumption) ?_
  · intro W hSw
    go_simp
  try simp only [Act.put, List.setIfInBounds_toArray, List.set_cons_zero, List.set_cons_succ]
  refine wpAnyH_take (i := 15) (v := .int .i64 (-1)) (by simp only [List.getElem?_toArray, List.getElem?_cons_succ, List.getElem?_cons_zero]; exact rfl) (by kernel_rfl) (by kernel_rfl) (by kernel_rfl) (by intro c a w h; exact hQ c a _ _ w h) (Or.inl ⟨by rfl, ?_⟩) (by assumption) ?_
  · intro W hSw
    go_simp
  try simp only [Act.put, List.setIfInBounds_toArray, List.set_cons_zero, List.set_cons_succ]
  refine wpAnyH_take (i := 16) (v := .bool false) (by simp only [List.getElem?_toArray, List.getElem?_cons_succ, List.getElem?_cons_zero]; exact rfl) (by kernel_rfl) (by kernel_rfl) (by kernel_rfl) (by intro c a w h; exact hQ c a _ _ w h) (Or.inl ⟨by rfl, ?_⟩) (by assumption) ?_
  · intro W hSw
    go_simp
  try simp only [Act.put, List.setIfInBounds_toArray, List.set_cons_zero, List.set_cons_succ]
  refine wpAnyH_take (i := 17) (v := .bool false) (by simp only [List.getElem?_toArray, List.getElem?_cons_succ, List.getElem?_cons_zero]; exact rfl) (by kernel_rfl) (by kernel_rfl) (by kernel_rfl) (by intro c a w h; exact hQ c a _ _ w h) (Or.inl ⟨by rfl, ?_⟩) (by assumption) ?_
  · intro W hSw
    go_simp
  try simp only [Act.put, List.setIfInBounds_toArray, List.set_cons_zero, List.set_cons_succ]
  refine wpAnyH_take (i := 18) (v := .bool false) (by simp only [List.getElem?_toArray, List.getElem?_cons_succ, List.getElem?_cons_zero]; exact rfl) (by kernel_rfl) (by kernel_rfl) (by kernel_rfl) (by intro c a w h; exact hQ c a _ _ w h) (Or.inl ⟨by rfl, ?_⟩) (by assumption) ?_
  · intro W hSw
    go_simp
  try simp only [Act.put, List.setIfInBounds_toArray, List.set_cons_zero, List.set_cons_succ]
  refine wpAnyH_take (i := 19) (v := .bool false) (by simp only [List.getElem?_toArray, List.getElem?_cons_succ, List.getElem?_cons_zero]; exact rfl) (by kernel_rfl) (by kernel_rfl) (by kernel_rfl) (by intro c a w h; exact hQ c a _ _ w h) (Or.inl ⟨by rfl, ?_⟩) (by assumption) ?_
  · intro W hSw
    go_simp
  try simp only [Act.put, List.setIfInBounds_toArray, List.set_cons_zero, List.set_cons_succ]
  refine wpAnyH_take (i := 20) (v := .bool false) (by simp only [List.getElem?_toArray, List.getElem?_cons_succ, List.getElem?_cons_zero]; exact rfl) (by kernel_rfl) (by kernel_rfl) (by kernel_rfl) (by intro c a w h; exact hQ c a _ _ w h) (Or.inl ⟨by rfl, ?_⟩) (by assumption) ?_
  · intro W hSw
    go_simp
  try simp only [Act.put, List.setIfInBounds_toArray, List.set_cons_zero, List.set_cons_succ]
  refine wpAnyH_take (i := 21) (v := .bool false) (by simp only [List.getElem?_toArray, List.getElem?_cons_succ, List.getElem?_cons_zero]; exact rfl) (by kernel_rfl) (by kernel_rfl) (by kernel_rfl) (by intro c a w h; exact hQ c a _ _ w h) (Or.inl ⟨by rfl, ?_⟩) (by assumption) ?_
  · intro W hSw
    go_simp
  try simp only [Act.put, List.setIfInBounds_toArray, List.set_cons_zero, List.set_cons_succ]
  refine wpAnyH_take (i := 22) (v := undef) (by simp only [List.getElem?_toArray, List.getElem?_cons_succ, List.getElem?_cons_zero]; exact rfl) (by kernel_rfl) (by kernel_rfl) (by kernel_rfl) (by intro c a w h; exact hQ c a _ _ w h) (Or.inr ⟨by rfl, rfl⟩) (by assumption) ?_
  try simp only [Act.put, List.setIfInBounds_toArray, List.set_cons_zero, List.set_cons_succ]
  refine wpAnyH_take (i := 23) (v := undef) (by simp only [List.getElem?_toArray, List.getElem?_cons_succ, List.getElem?_cons_zero]; exact rfl) (by kernel_rfl) (by kernel_rfl) (by kernel_rfl) (by intro c a w h; exact hQ c a _ _ w h) (Or.inr ⟨by rfl, rfl⟩) (by assumption) ?_
  try simp only [Act.put, List.setIfInBounds_toArray, List.set_cons_zero, List.set_cons_succ]
  refine wpAnyH_take (i := 24) (v := undef) (by simp only [List.getElem?_toArray, List.getElem?_cons_succ, List.getElem?_cons_zero]; exact rfl) (by kernel_rfl) (by kernel_rfl) (by kernel_rfl) (by intro c a w h; exact hQ c a _ _ w h) (Or.inr ⟨by rfl, rfl⟩) (by assumption) ?_
  try simp only [Act.put, List.setIfInBounds_toArray, List.set_cons_zero, List.set_cons_succ]
  refine wpAnyH_take (i := 25) (v := .bool false) (by simp only [List.getElem?_toArray, List.getElem?_cons_succ, List.getElem?_cons_zero]; exact rfl) (by kernel_rfl) (by kernel_rfl) (by kernel_rfl) (by intro c a w h; exact hQ c a _ _ w h) (Or.inl ⟨by rfl, ?_⟩) (by assumption) ?_
  · intro W hSw
    go_simp
  try simp only [Act.put, List.setIfInBounds_toArray, List.set_cons_zero, List.set_cons_succ]
  refine wpAnyH_take (i := 26) (v := .bool false) (by simp only [List.getElem?_toArray, List.getElem?_cons_succ, List.getElem?_cons_zero]; exact rfl) (by kernel_rfl) (by kernel_rfl) (by kernel_rfl) (by intro c a w h; exact hQ c a _ _ w h) (Or.inl ⟨by rfl, ?_⟩) (by assumption) ?_
  · intro W hSw
    go_simp
  try simp only [Act.put, List.setIfInBounds_toArray, List.set_cons_zero, List.set_cons_succ]
  refine wpAnyH_take (i := 27) (v := .bool false) (by simp only [List.getElem?_toArray, List.getElem?_cons_succ, List.getElem?_cons_zero]; exact rfl) (by kernel_rfl) (by kernel_rfl) (by kernel_rfl) (by intro c a w h; exact hQ c a _ _ w h) (Or.inl ⟨by rfl, ?_⟩) (by assumption) ?_
  · intro W hSw
    go_simp
  try simp only [Act.put, List.setIfInBounds_toArray, List.set_cons_zero, List.set_cons_succ]
  refine wpAnyH_take (i := 28) (v := .bool false) (by simp only [List.getElem?_toArray, List.getElem?_cons_succ, List.getElem?_cons_zero]; exact rfl) (by kernel_rfl) (by kernel_rfl) (by kernel_rfl) (by intro c a w h; exact hQ c a _ _ w h) (Or.inl ⟨by rfl, ?_⟩) (by assumption) ?_
  · intro W hSw
    go_simp
  try simp only [Act.put, List.setIfInBounds_toArray, List.set_cons_zero, List.set_cons_succ]
  refine wpAnyH_take (i := 29) (v := .bool true) (by simp only [List.getElem?_toArray, List.getElem?_cons_succ, List.getElem?_cons_zero]; exact rfl) (by kernel_rfl) (by kernel_rfl) (by kernel_rfl) (by intro c a w h; exact hQ c a _ _ w h) (Or.inl ⟨by rfl, ?_⟩) (by assumption) ?_
  · intro W hSw
    go_simp
  try simp only [Act.put, List.setIfInBounds_toArray, List.set_cons_zero, List.set_cons_succ]
  refine wpAnyH_take (i := 30) (v := .bool true) (by simp only [List.getElem?_toArray, List.getElem?_cons_succ, List.getElem?_cons_zero]; exact rfl) (by kernel_rfl) (by kernel_rfl) (by kernel_rfl) (by intro c a w h; exact hQ c a _ _ w h) (Or.inl ⟨by rfl, ?_⟩) (by assumption) ?_
  · intro W hSw
    go_simp
  try simp only [Act.put, List.setIfInBounds_toArray, List.set_cons_zero, List.set_cons_succ]
  refine wpAnyH_take (i := 31) (v := .int .i64 0) (by simp only [List.getElem?_toArray, List.getElem?_cons_succ, List.getElem?_cons_zero]; exact rfl) (by kernel_rfl) (by kernel_rfl) (by kernel_rfl) (by intro c a w h; exact hQ c a _ _ w h) (Or.inl ⟨by rfl, ?_⟩) (by assumption) ?_
  · intro W hSw
    go_simp
  try simp only [Act.put, List.setIfInBounds_toArray, List.set_cons_zero, List.set_cons_succ]
  refine wpAnyH_take (i := 32) (v := .bool false) (by simp only [List.getElem?_toArray, List.getElem?_cons_succ, List.getElem?_cons_zero]; exact rfl) (by kernel_rfl) (by kernel_rfl) (by kernel_rfl) (by intro c a w h; exact hQ c a _ _ w h) (Or.inl ⟨by rfl, ?_⟩) (by assumption) ?_
  · intro W hSw
    go_simp
  try simp only [Act.put, List.setIfInBounds_toArray, List.set_cons_zero, List.set_cons_succ]
  refine wpAnyH_take (i := 33) (v := .bool false) (by simp only [List.getElem?_toArray, List.getElem?_cons_succ, List.getElem?_cons_zero]; exact rfl) (by kernel_rfl) (by kernel_rfl) (by kernel_rfl) (by intro c a w h; exact hQ c a _ _ w h) (Or.inl ⟨by rfl, ?_⟩) (by assumption) ?_
  · intro W hSw
    go_simp
  try simp only [Act.put, List.setIfInBounds_toArray, List.set_cons_zero, List.set_cons_succ]
  refine wpAnyH_take (i := 34) (v := .bool false) (by simp only [List.getElem?_toArray, List.getElem?_cons_succ, List.getElem?_cons_zero]; exact rfl) (by kernel_rfl) (by kernel_rfl) (by kernel_rfl) (by intro c a w h; exact hQ c a _ _ w h) (Or.inl ⟨by rfl, ?_⟩) (by assumption) ?_
  · intro W hSw
    go_simp
  try simp only [Act.put, List.setIfInBounds_toArray, List.set_cons_zero, List.set_cons_succ]
  refine wpAnyH_take (i := 35) (v := .bool false) (by simp only [List.getElem?_toArray, List.getElem?_cons_succ, List.getElem?_cons_zero]; exact rfl) (by kernel_rfl) (by kernel_rfl) (by kernel_rfl) (by intro c a w h; exact hQ c a _ _ w h) (Or.inl ⟨by rfl, ?_⟩) (by assumption) ?_
  · intro W hSw
    go_simp
  try simp only [Act.put, List.setIfInBounds_toArray, List.set_cons_zero, List.set_cons_succ]
  refine wpAnyH_take (i := 36) (v := .bool false) (by simp only [List.getElem?_toArray, List.getElem?_cons_succ, List.getElem?_cons_zero]; exact rfl) (by kernel_rfl) (by kernel_rfl) (by kernel_rfl) (by intro c a w h; exact hQ c a _ _ w h) (Or.inl ⟨by rfl, ?_⟩) (by assumption) ?_
  · intro W hSw
    go_simp
  try simp only [Act.put, List.setIfInBounds_toArray, List.set_cons_zero, List.set_cons_succ]
  refine wpAnyH_take (i := 37) (v := .bool false) (by simp only [List.getElem?_toArray, List.getElem?_cons_succ, List.getElem?_cons_zero]; exact rfl) (by kernel_rfl) (by kernel_rfl) (by kernel_rfl) (by intro c a w h; exact hQ c a _ _ w h) (Or.inl ⟨by rfl, ?_⟩) (by assumption) ?_
  · intro W hSw
    go_simp
  try simp only [Act.put, List.setIfInBounds_toArray, List.set_cons_zero, List.set_cons_succ]
  refine wpAnyH_take (i := 38) (v := .bool false) (by simp only [List.getElem?_toArray, List.getElem?_cons_succ, List.getElem?_cons_zero]; exact rfl) (by kernel_rfl) (by kernel_rfl) (by kernel_rfl) (by intro c a w h; exact hQ c a _ _ w h) (Or.inl ⟨by rfl, ?_⟩) (by assumption) ?_
  · intro W hSw
    go_simp
  try simp only [Act.put, List.setIfInBounds_toArray, List.set_cons_zero, List.set_cons_succ]
  refine wpAnyH_take (i := 39) (v := .bool false) (by simp only [List.getElem?_toArray, List.getElem?_cons_succ, List.getElem?_cons_zero]; exact rfl) (by kernel_rfl) (by kernel_rfl) (by kernel_rfl) (by intro c a w h; exact hQ c a _ _ w h) (Or.inl ⟨by rfl, ?_⟩) (by assumption) ?_
  · intro W hSw
    go_simp
  try simp only [Act.put, List.setIfInBounds_toArray, List.set_cons_zero, List.set_cons_succ]
  refine wpAnyH_take (i := 40) (v := .bool false) (by simp only [List.getElem?_toArray, List.getElem?_cons_succ, List.getElem?_cons_zero]; exact rfl) (by kernel_rfl) (by kernel_rfl) (by kernel_rfl) (by intro c a w h; exact hQ c a _ _ w h) (Or.inl ⟨by rfl, ?_⟩) (by assumption) ?_
  · intro W hSw
    go_simp
  try simp only [Act.put, List.setIfInBounds_toArray, List.set_cons_zero, List.set_cons_succ]
  refine wpAnyH_take (i := 41) (v := .bool false) (by simp only [List.getElem?_toArray, List.getElem?_cons_succ, List.getElem?_cons_zero]; exact rfl) (by kernel_rfl) (by kernel_rfl) (by kernel_rfl) (by intro c a w h; exact hQ c a _ _ w h) (Or.inl ⟨by rfl, ?_⟩) (by assumption) ?_
  · intro W hSw
    go_simp
  try simp only [Act.put, List.setIfInBounds_toArray, List.set_cons_zero, List.set_cons_succ]
  refine wpAnyH_take (i := 42) (v := .bool false) (by simp only [List.getElem?_toArray, List.getElem?_cons_succ, List.getElem?_cons_zero]; exact rfl) (by kernel_rfl) (by kernel_rfl) (by kernel_rfl) (by intro c a w h; exact hQ c a _ _ w h) (Or.inl ⟨by rfl, ?_⟩) (by assumption) ?_
  · intro W hSw
    go_simp
  try simp only [Act.put, List.setIfInBounds_toArray, List.set_cons_zero, List.set_cons_succ]
  refine wpAnyH_take (i := 43) (v := undef) (by simp only [List.getElem?_toArray, List.getElem?_cons_succ, List.getElem?_cons_zero]; exact rfl) (by kernel_rfl) (by kernel_rfl) (by kernel_rfl) (by intro c a w h; exact hQ c a _ _ w h) (Or.inr ⟨by rfl, rfl⟩) (by assumption) ?_
  try simp only [Act.put, List.setIfInBounds_toArray, List.set_cons_zero, List.set_cons_succ]
  refine wpAnyH_take (i := 44) (v := undef) (by simp only [List.getElem?_toArray, List.getElem?_cons_succ, List.getElem?_cons_zero]; exact rfl) (by kernel_rfl) (by kernel_rfl) (by kernel_rfl) (by intro c a w h; exact hQ c a _ _ w h) (Or.inr ⟨by rfl, rfl⟩) (by assumption) ?_
  try simp only [Act.put, List.setIfInBounds_toArray, List.set_cons_zero, List.set_cons_succ]
  refine wpAnyH_take (i := 45) (v := undef) (by simp only [List.getElem?_toArray, List.getElem?_cons_succ, List.getElem?_cons_zero]; exact rfl) (by kernel_rfl) (by kernel_rfl) (by kernel_rfl) (by intro c a w h; exact hQ c a _ _ w h) (Or.inr ⟨by rfl, rfl⟩) (by assumption) ?_
  try simp only [Act.put, List.setIfInBounds_toArray, List.set_cons_zero, List.set_cons_succ]
  refine wpAnyH_take (i := 46) (v := undef) (by simp only [List.getElem?_toArray, List.getElem?_cons_succ, List.getElem?_cons_zero]; exact rfl) (by kernel_rfl) (by kernel_rfl) (by kernel_rfl) (by intro c a w h; exact hQ c a _ _ w h) (Or.inr ⟨by rfl, rfl⟩) (by assumption) ?_
  try simp only [Act.put, List.setIfInBounds_toArray, List.set_cons_zero, List.set_cons_succ]
  refine wpAnyH_take (i := 47) (v := undef) (by simp only [List.getElem?_toArray, List.getElem?_cons_succ, List.getElem?_cons_zero]; exact rfl) (by kernel_rfl) (by kernel_rfl) (by kernel_rfl) (by intro c a w h; exact hQ c a _ _ w h) (Or.inr ⟨by rfl, rfl⟩) (by assumption) ?_
  try simp only [Act.put, List.setIfInBounds_toArray, List.set_cons_zero, List.set_cons_succ]
  refine wpAnyH_take (i := 48) (v := undef) (by simp only [List.getElem?_toArray, List.getElem?_cons_succ, List.getElem?_cons_zero]; exact rfl) (by kernel_rfl) (by kernel_rfl) (by kernel_rfl) (by intro c a w h; exact hQ c a _ _ w h) (Or.inr ⟨by rfl, rfl⟩) (by assumption) ?_
  try simp only [Act.put, List.setIfInBounds_toArray, List.set_cons_zero, List.set_cons_succ]
  refine wpAnyH_take (i := 49) (v := undef) (by simp only [List.getElem?_toArray, List.getElem?_cons_succ, List.getElem?_cons_zero]; exact rfl) (by kernel_rfl) (by kernel_rfl) (by kernel_rfl) (by intro c a w h; exact hQ c a _ _ w h) (Or.inr ⟨by rfl, rfl⟩) (by assumption) ?_
  try simp only [Act.put, List.setIfInBounds_toArray, List.set_cons_zero, List.set_cons_succ]
  refine wpAnyH_take (i := 50) (v := undef) (by simp only [List.getElem?_toArray, List.getElem?_cons_succ, List.getElem?_cons_zero]; exact rfl) (by kernel_rfl) (by kernel_rfl) (by kernel_rfl) (by intro c a w h; exact hQ c a _ _ w h) (Or.inr ⟨by rfl, rfl⟩) (by assumption) ?_
  try simp only [Act.put, List.setIfInBounds_toArray, List.set_cons_zero, List.set_cons_succ]
  refine wpAnyH_take (i := 51) (v := .bool false) (by simp only [List.getElem?_toArray, List.getElem?_cons_succ, List.getElem?_cons_zero]; exact rfl) (by kernel_rfl) (by kernel_rfl) (by kernel_rfl) (by intro c a w h; exact hQ c a _ _ w h) (Or.inl ⟨by rfl, ?_⟩) (by assumption) ?_
  · intro W hSw
    go_simp
  try simp only [Act.put, List.setIfInBounds_toArray, List.set_cons_zero, List.set_cons_succ]
  refine wpAnyH_take (i := 52) (v := .bool false) (by simp only [List.getElem?_toArray, List.getElem?_cons_succ, List.getElem?_cons_zero]; exact rfl) (by kernel_rfl) (by kernel_rfl) (by kernel_rfl) (by intro c a w h; exact hQ c a _ _ w h) (Or.inl ⟨by rfl, ?_⟩) (by assumption) ?_
  · intro W hSw
    go_simp
  try simp only [Act.put, List.setIfInBounds_toArray, List.set_cons_zero, List.set_cons_succ]
  refine wpAnyH_take (i := 53) (v := .bool false) (by simp only [List.getElem?_toArray, List.getElem?_cons_succ, List.getElem?_cons_zero]; exact rfl) (by kernel_rfl) (by kernel_rfl) (by kernel_rfl) (by intro c a w h; exact hQ c a _ _ w h) (Or.inl ⟨by rfl, ?_⟩) (by assumption) ?_
  · intro W hSw
    go_simp
  try simp only [Act.put, List.setIfInBounds_toArray, List.set_cons_zero, List.set_cons_succ]
  refine wpAnyH_take (i := 54) (v := .bool false) (by simp only [List.getElem?_toArray, List.getElem?_cons_succ, List.getElem?_cons_zero]; exact rfl) (by kernel_rfl) (by kernel_rfl) (by kernel_rfl) (by intro c a w h; exact hQ c a _ _ w h) (Or.inl ⟨by rfl, ?_⟩) (by assumption) ?_
  · intro W hSw
    go_simp
  try simp only [Act.put, List.setIfInBounds_toArray, List.set_cons_zero, List.set_cons_succ]
  refine wpAnyH_take (i := 55) (v := .bool true) (by simp only [List.getElem?_toArray, List.getElem?_cons_succ, List.getElem?_cons_zero]; exact rfl) (by kernel_rfl) (by kernel_rfl) (by kernel_rfl) (by intro c a w h; exact hQ c a _ _ w h) (Or.inl ⟨by rfl, ?_⟩) (by assumption) ?_
  · intro W hSw
    go_simp
  try simp only [Act.put, List.setIfInBounds_toArray, List.set_cons_zero, List.set_cons_succ]
  refine wpAnyH_take (i := 56) (v := .bool true) (by simp only [List.getElem?_toArray, List.getElem?_cons_succ, List.getElem?_cons_zero]; exact rfl) (by kernel_rfl) (by kernel_rfl) (by kernel_rfl) (by intro c a w h; exact hQ c a _ _ w h) (Or.inl ⟨by rfl, ?_⟩) (by assumption) ?_
  · intro W hSw
    go_simp
  try simp only [Act.put, List.setIfInBounds_toArray, List.set_cons_zero, List.set_cons_succ]
  refine wpAnyH_take (i := 57) (v := .agg #[.int .i64 0, .int .i64 0, .int .i64 0, .int .i64 0, .int .i64 0, .int .i64 0, .int .i64 0]) (by simp only [List.getElem?_toArray, List.getElem?_cons_succ, List.getElem?_cons_zero]; exact rfl) (by kernel_rfl) (by kernel_rfl) (by kernel_rfl) (by intro c a w h; exact hQ c a _ _ w h) (Or.inl ⟨by rfl, ?_⟩) (by assumption) ?_
  · intro W hSw
    go_simp
  try simp only [Act.put, List.setIfInBounds_toArray, List.set_cons_zero, List.set_cons_succ]
  refine wpAnyH_take (i := 58) (v := .agg #[.int .i64 0, .int .i64 0, .int .i64 0, .int .i64 0, .int .i64 0, .int .i64 0, .int .i64 0]) (by simp only [List.getElem?_toArray, List.getElem?_cons_succ, List.getElem?_cons_zero]; exact rfl) (by kernel_rfl) (by kernel_rfl) (by kernel_rfl) (by intro c a w h; exact hQ c a _ _ w h) (Or.inl ⟨by rfl, ?_⟩) (by assumption) ?_
  · intro W hSw
    go_simp
  try simp only [Act.put, List.setIfInBounds_toArray, List.set_cons_zero, List.set_cons_succ]
  refine wpAnyH_take (i := 59) (v := .bool false) (by simp only [List.getElem?_toArray, List.getElem?_cons_succ, List.getElem?_cons_zero]; exact rfl) (by kernel_rfl) (by kernel_rfl) (by kernel_rfl) (by intro c a w h; exact hQ c a _ _ w h) (Or.inl ⟨by rfl, ?_⟩) (by assumption) ?_
  · intro W hSw
    go_simp
  try simp only [Act.put, List.setIfInBounds_toArray, List.set_cons_zero, List.set_cons_succ]
  refine wpAnyH_take (i := 60) (v := .bool false) (by simp only [List.getElem?_toArray, List.getElem?_cons_succ, List.getElem?_cons_zero]; exact rfl) (by kernel_rfl) (by kernel_rfl) (by kernel_rfl) (by intro c a w h; exact hQ c a _ _ w h) (Or.inl ⟨by rfl, ?_⟩) (by assumption) ?_
  · intro W hSw
    go_simp
  try simp only [Act.put, List.setIfInBounds_toArray, List.set_cons_zero, List.set_cons_succ]
  refine wpAnyH_take (i := 61) (v := .bool false) (by simp only [List.getElem?_toArray, List.getElem?_cons_succ, List.getElem?_cons_zero]; exact rfl) (by kernel_rfl) (by kernel_rfl) (by kernel_rfl) (by intro c a w h; exact hQ c a _ _ w h) (Or.inl ⟨by rfl, ?_⟩) (by assumption) ?_
  · intro W hSw
    go_simp
  try simp only [Act.put, List.setIfInBounds_toArray, List.set_cons_zero, List.set_cons_succ]
  refine wpAnyH_done (by kernel_rfl) ?_ _
  have hS9 : ∀ wf : World, ((Sp w wf bs n qx qx gx ba kd now x ∧ wf.heap[b25]? = some (.cells It.zero.arr 29 (0, 0))) ∧ wf.cell? ⟨b25, 0, none⟩ = some (.int .i64 0) ∧ wf.cell? ⟨b25, 1, none⟩ = some (.int .i64 0) ∧ wf.cell? ⟨b25, 2, none⟩ = some (.int .i64 0) ∧ wf.cell? ⟨b25, 3, none⟩ = some (.int .i64 0) ∧ wf.cell? ⟨b25, 4, none⟩ = some (.int .i64 0) ∧ wf.cell? ⟨b25, 5, none⟩ = some (.int .i64 0) ∧ wf.cell? ⟨b25, 6, none⟩ = some (.int .i64 0)) → Sp w wf bs n qx qx gx ba kd now x := fun _ h => h.1.1
  go_wp2_with fail
  exact HK.out _ _ _ _ _ _ _ _ _ _ _ _ _ _ _ _ _ _ _ _ _ _ _ _ _ _ _ _ _ _ _ _ _ _ _ _ _ _ _ _ _ _ _ _ _ _ _ _ _ _ _ _ _ _ _ _ _ _ _ _ _ _ (hS9 _ (by assumption))
end Go.Proofs.Ytnlpjgogflcmoaa
