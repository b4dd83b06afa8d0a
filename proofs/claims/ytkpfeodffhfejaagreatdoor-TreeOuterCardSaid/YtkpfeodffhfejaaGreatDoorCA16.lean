/- The merge of two sorted runs of a map's entries, of whatever length. -/
import Derived.Test.YtkpfeodffhfejaaGreatDoorCA15
import Derived.Deep.DeepCutAuto
namespace Go.Proofs.YtkpfeodffhfejaaGreatDoor
set_option linter.unusedVariables false
set_option maxRecDepth 1000000
open Go.RowKit

theorem InsAt.further {W0 : World} {B g n a b a' b' : Nat} {f q q' : Nat → Ent} {w w' : World} (h : InsAt W0 B g n f a b q w) (hs : St W0 B g n q' w') (hm : Mix a' b' q q') (hp : PermOn n q' q) (h1 : a ≤ a') (h2 : b' ≤ b) (h3 : b ≤ n) : InsAt W0 B g n f a b q' w' :=
  ⟨hs, h.mx.trans (hm.wide h1 h2), h.pm.trans hp, h.ok.mix hm (by omega)⟩
/-- What the search between the two runs has. -/
def Lo (f : Nat → Ent) (t s i : Nat) : Prop := ∀ c, s ≤ c → c < i → ¬ ltE (f (t - c)) (f c)
def Hi (f : Nat → Ent) (t j r : Nat) : Prop := ∀ c, j ≤ c → c < r → ltE (f (t - c)) (f c)
theorem Lo.go {f : Nat → Ent} {a m b t s r i c : Nat} (h : Lo f t s i) (hs1 : Srt ltE f a m) (hs2 : Srt ltE f m b) (h1 : i ≤ c) (h2 : c < r) (b1 : a ≤ s) (b2 : r ≤ m) (b3 : s ≤ i) (b4 : t - s < b) (b5 : m + r ≤ t + 1) (hc : ¬ ltE (f (t - c)) (f c)) : Lo f t s (c + 1) := by
  intro k x y
  by_cases e : k = c
  · subst e; exact hc
  · have e1 := hs1 k c (by omega) (by omega) (by omega)
    have e2 := hs2 (t - c) (t - k) (by omega) (by omega) (by omega)
    exact ordE.trans _ _ _ (ordE.trans _ _ _ e1 hc) e2
theorem Hi.go {f : Nat → Ent} {a m b t s r j c : Nat} (h : Hi f t j r) (hs1 : Srt ltE f a m) (hs2 : Srt ltE f m b) (h1 : s ≤ c) (h2 : c < j) (b1 : a ≤ s) (b2 : r ≤ m) (b3 : j ≤ r) (b4 : t - s < b) (b5 : m + r ≤ t + 1) (hc : ltE (f (t - c)) (f c)) : Hi f t c r := by
  intro k x y
  by_cases e : k = c
  · subst e; exact hc
  · have e1 := hs1 c k (by omega) (by omega) (by omega)
    have e2 := hs2 (t - k) (t - c) (by omega) (by omega) (by omega)
    have a1 := totK.anti (f c).k (f k).k
    have a2 := totK.anti (f (t - k)).k (f (t - c)).k
    have a3 := totK.anti (f k).k (f (t - k)).k
    have a4 := totK.anti (f (t - c)).k (f c).k
    have t1 := totK.trans (f (t - k)).k (f (t - c)).k (f c).k
    have t2 := totK.trans (f (t - k)).k (f c).k (f k).k
    have t3 := totK.trans (f c).k (f k).k (f (t - k)).k
    have t4 := totK.trans (f k).k (f (t - k)).k (f (t - c)).k
    have t5 := totK.trans (f c).k (f (t - k)).k (f (t - c)).k
    unfold ltE at *
    omega


/-- The first region of a code. -/
def hdR : Code → Option Nat
  | .region k _ _ => some k
  | .seq a _ => hdR a
  | .block _ a => hdR a
  | .loop a => hdR a
  | .scope a => hdR a
  | _ => none
/-- What of a code stands first with region k. -/
def piece (k : Nat) : Code → Option Code
  | .seq a b => if hdR a == some k then some a else match piece k a with
    | some c => some c
    | none => piece k b
  | .cond _ a b => match piece k a with
    | some c => some c
    | none => piece k b
  | .block _ a => piece k a
  | .loop a => piece k a
  | .scope a => piece k a
  | _ => none
/-- What of a code stands last with region k. -/
def lastp (k : Nat) : Code → Option Code
  | .seq a b => if hdR b == some k then some b else match lastp k a with
    | some c => some c
    | none => lastp k b
  | .cond _ a b => match lastp k a with
    | some c => some c
    | none => lastp k b
  | .block _ a => lastp k a
  | .loop a => lastp k a
  | .scope a => lastp k a
  | _ => none
noncomputable def code39 : Code := (Tryz.f137.body.bind (piece 39)).getD .skip
noncomputable def code41 : Code := (Tryz.f137.body.bind (piece 41)).getD .skip
noncomputable def code43 : Code := (Tryz.f137.body.bind (lastp 43)).getD .skip

set_option maxHeartbeats 32000000 in
set_option maxRecDepth 1000000 in
theorem tail39 {W0 : World} {B g n cap : Nat} (f : Nat → Ent) (a m b mid i e : Nat) (r : Nat → Ent) (hn : n < 1000) (v5 v6 v7 v8 v9 v10 v11 v12 v13 v14 v15 v16 v17 v19 v21 v22 v23 v25 v26 v27 v28 v29 v30 v31 v32 v33 v34 v35 v36 v37 v38 v39 v40 v41 v42 v43 v44 v45 v46 v47 v48 v49 v50 v51 v52 v53 v54 v55 v56 v57 v58 v59 v60 v61 v62 v63 v64 v65 v66 v67 v68 v69 v70 v71 v72 v73 v74 v75 v76 v77 v78 v79 v80 v81 v82 v83 v84 v85 v86 v87 v88 v89 v90 v91 v92 v93 v94 v95 v96 v97 v98 v99 v100 v101 v102 v103 v104 v105 v106 v107 v108 v109 v110 v111 v112 v113 v114 v115 v116 v117 v118 v119 v120 v121 v122 v123 v124 v125 v126 v127 v128 v129 v130 v131 v132 v133 v134 v135 v136 v137 v138 v139 v140 v141 v142 v143 v144 v145 v146 v147 v148 v149 v150 v151 v152 v153 v154 v155 v156 v157 v158 v159 v160 v161 v162 v163 v164 v165 v166 v167 v168 v169 v170 v171 v172 v173 v174 v175 v176 v177 v178 v179 v180 v181 v182 v183 v184 v185 v186 v187 v188 v189 v190 v191 v192 v193 v194 v195 v196 v197 v198 v199 v200 v201 v202 v203 v204 v205 v206 v207 v208 v209 v210 v211 v212 v213 v214 v215 v216 v217 v218 v219 : Value) (w : World) (Q : Exit → Act → World → Prop) (K : Act → World → Prop)
    (c1 : i ≤ m) (c2 : m ≤ e) (c3 : e ≤ b) (c5 : a ≤ i) (h3 : b ≤ n) (hr : r = rot f i m e) (HI : InsAt W0 B g n f a b f w)
    (hK : ∀ (u178 u179 u180 u181 u182 u183 u184 u185 u186 u187 u188 u189 u190 u191 : Value) (wx : World), InsAt W0 B g n f a b r wx → K ⟨#[.slice (some ⟨g, 0, none⟩) n cap, .int .i64 a, .int .i64 m, .int .i64 b, .func (.func 87) #[] #[], v5, v6, v7, v8, v9, v10, v11, v12, v13, v14, v15, v16, v17, .int .i64 mid, v19, .int .i64 i, v21, v22, v23, .int .i64 e, v25, v26, v27, v28, v29, v30, v31, v32, v33, v34, v35, v36, v37, v38, v39, v40, v41, v42, v43, v44, v45, v46, v47, v48, v49, v50, v51, v52, v53, v54, v55, v56, v57, v58, v59, v60, v61, v62, v63, v64, v65, v66, v67, v68, v69, v70, v71, v72, v73, v74, v75, v76, v77, v78, v79, v80, v81, v82, v83, v84, v85, v86, v87, v88, v89, v90, v91, v92, v93, v94, v95, v96, v97, v98, v99, v100, v101, v102, v103, v104, v105, v106, v107, v108, v109, v110, v111, v112, v113, v114, v115, v116, v117, v118, v119, v120, v121, v122, v123, v124, v125, v126, v127, v128, v129, v130, v131, v132, v133, v134, v135, v136, v137, v138, v139, v140, v141, v142, v143, v144, v145, v146, v147, v148, v149, v150, v151, v152, v153, v154, v155, v156, v157, v158, v159, v160, v161, v162, v163, v164, v165, v166, v167, v168, v169, v170, v171, v172, v173, v174, v175, v176, v177, u178, u179, u180, u181, u182, u183, u184, u185, u186, u187, u188, u189, u190, u191, v192, v193, v194, v195, v196, v197, v198, v199, v200, v201, v202, v203, v204, v205, v206, v207, v208, v209, v210, v211, v212, v213, v214, v215, v216, v217, v218, v219], []⟩ wx) :
    Code.wp Tryz.prog code39 (Exit.then K Q) ⟨#[.slice (some ⟨g, 0, none⟩) n cap, .int .i64 a, .int .i64 m, .int .i64 b, .func (.func 87) #[] #[], v5, v6, v7, v8, v9, v10, v11, v12, v13, v14, v15, v16, v17, .int .i64 mid, v19, .int .i64 i, v21, v22, v23, .int .i64 e, v25, v26, v27, v28, v29, v30, v31, v32, v33, v34, v35, v36, v37, v38, v39, v40, v41, v42, v43, v44, v45, v46, v47, v48, v49, v50, v51, v52, v53, v54, v55, v56, v57, v58, v59, v60, v61, v62, v63, v64, v65, v66, v67, v68, v69, v70, v71, v72, v73, v74, v75, v76, v77, v78, v79, v80, v81, v82, v83, v84, v85, v86, v87, v88, v89, v90, v91, v92, v93, v94, v95, v96, v97, v98, v99, v100, v101, v102, v103, v104, v105, v106, v107, v108, v109, v110, v111, v112, v113, v114, v115, v116, v117, v118, v119, v120, v121, v122, v123, v124, v125, v126, v127, v128, v129, v130, v131, v132, v133, v134, v135, v136, v137, v138, v139, v140, v141, v142, v143, v144, v145, v146, v147, v148, v149, v150, v151, v152, v153, v154, v155, v156, v157, v158, v159, v160, v161, v162, v163, v164, v165, v166, v167, v168, v169, v170, v171, v172, v173, v174, v175, v176, v177, v178, v179, v180, v181, v182, v183, v184, v185, v186, v187, v188, v189, v190, v191, v192, v193, v194, v195, v196, v197, v198, v199, v200, v201, v202, v203, v204, v205, v206, v207, v208, v209, v210, v211, v212, v213, v214, v215, v216, v217, v218, v219], []⟩ w := by
  have HK := Lib.hid hK
  have HR := Lib.hid hr
  have HJ := Lib.hid HI
  clear hK hr HI
  conv => arg 2; whnf
  by_cases t1 : i < m
  · by_cases t2 : m < e
    · go_wp2_with fail
      refine (rotate_any f i m e cap _ HJ.out.st t1 t2 (by omega) hn).mono ?_
      rintro ee w1 ⟨rfl, hst⟩
      rw [← HR.out] at hst
      have HST := Lib.hid hst
      clear hst
      go_wp2_with fail
      refine HK.out _ _ _ _ _ _ _ _ _ _ _ _ _ _ _ (HJ.out.further HST.out (a' := i) (b' := e) ?_ ?_ c5 c3 h3)
      · rw [HR.out]; exact Mix.rot f c1 c2
      · rw [HR.out]
        have := rot_perm f (n := n) (m := m) _ (m - i) (e - m) (Nat.le_refl _) (by omega) (by omega)
        rwa [show m - (m - i) = i by omega, show m + (e - m) = e by omega] at this
    · go_wp2_with fail
      refine HK.out _ _ _ _ _ _ _ _ _ _ _ _ _ _ _ ?_
      rw [HR.out, rot_same c1 c2 (.inr (by omega))]; exact HJ.out
  · go_wp2_with fail
    refine HK.out _ _ _ _ _ _ _ _ _ _ _ _ _ _ _ ?_
    rw [HR.out, rot_same c1 c2 (.inl (by omega))]; exact HJ.out

set_option maxHeartbeats 32000000 in
set_option maxRecDepth 1000000 in
theorem tail41 {W0 : World} {B g n cap : Nat} (f : Nat → Ent) (a m b mid i e : Nat) (r : Nat → Ent) (s : Nat) (ih : ∀ (f : Nat → Ent) (a m b : Nat) (w : World), b - a ≤ s → St W0 B g n f w → OkE n f → a < m → m < b → b ≤ n → Srt ltE f a m → Srt ltE f m b → Calls Tryz.prog 137 #[.slice (some ⟨g, 0, none⟩) n cap, .int .i64 a, .int .i64 m, .int .i64 b, .func (.func 87) #[] #[]] w (SortPost W0 B g n f a b)) (v5 v6 v7 v8 v9 v10 v11 v12 v13 v14 v15 v16 v17 v19 v21 v22 v23 v25 v26 v27 v28 v29 v30 v31 v32 v33 v34 v35 v36 v37 v38 v39 v40 v41 v42 v43 v44 v45 v46 v47 v48 v49 v50 v51 v52 v53 v54 v55 v56 v57 v58 v59 v60 v61 v62 v63 v64 v65 v66 v67 v68 v69 v70 v71 v72 v73 v74 v75 v76 v77 v78 v79 v80 v81 v82 v83 v84 v85 v86 v87 v88 v89 v90 v91 v92 v93 v94 v95 v96 v97 v98 v99 v100 v101 v102 v103 v104 v105 v106 v107 v108 v109 v110 v111 v112 v113 v114 v115 v116 v117 v118 v119 v120 v121 v122 v123 v124 v125 v126 v127 v128 v129 v130 v131 v132 v133 v134 v135 v136 v137 v138 v139 v140 v141 v142 v143 v144 v145 v146 v147 v148 v149 v150 v151 v152 v153 v154 v155 v156 v157 v158 v159 v160 v161 v162 v163 v164 v165 v166 v167 v168 v169 v170 v171 v172 v173 v174 v175 v176 v177 v178 v179 v180 v181 v182 v183 v184 v185 v186 v187 v188 v189 v190 v191 v192 v193 v194 v195 v196 v197 v198 v199 v200 v201 v202 v203 v204 v205 v206 v207 v208 v209 v210 v211 v212 v213 v214 v215 v216 v217 v218 v219 : Value) (w : World) (Q : Exit → Act → World → Prop) (K : Act → World → Prop)
    (c4 : i ≤ mid) (c5 : a ≤ i) (hm2 : mid < b) (h3 : b ≤ n) (hsz : b - a ≤ s + 1) (hp1 : Srt ltE r a i) (hp2 : Srt ltE r i mid) (HI : InsAt W0 B g n f a b r w)
    (hK : ∀ (u192 u193 u194 u195 u196 u197 u198 u199 u200 u201 u202 u203 u204 u205 : Value) (wx : World), (∃ q : Nat → Ent, InsAt W0 B g n f a b q wx ∧ Mix a mid r q ∧ Srt ltE q a mid) → K ⟨#[.slice (some ⟨g, 0, none⟩) n cap, .int .i64 a, .int .i64 m, .int .i64 b, .func (.func 87) #[] #[], v5, v6, v7, v8, v9, v10, v11, v12, v13, v14, v15, v16, v17, .int .i64 mid, v19, .int .i64 i, v21, v22, v23, .int .i64 e, v25, v26, v27, v28, v29, v30, v31, v32, v33, v34, v35, v36, v37, v38, v39, v40, v41, v42, v43, v44, v45, v46, v47, v48, v49, v50, v51, v52, v53, v54, v55, v56, v57, v58, v59, v60, v61, v62, v63, v64, v65, v66, v67, v68, v69, v70, v71, v72, v73, v74, v75, v76, v77, v78, v79, v80, v81, v82, v83, v84, v85, v86, v87, v88, v89, v90, v91, v92, v93, v94, v95, v96, v97, v98, v99, v100, v101, v102, v103, v104, v105, v106, v107, v108, v109, v110, v111, v112, v113, v114, v115, v116, v117, v118, v119, v120, v121, v122, v123, v124, v125, v126, v127, v128, v129, v130, v131, v132, v133, v134, v135, v136, v137, v138, v139, v140, v141, v142, v143, v144, v145, v146, v147, v148, v149, v150, v151, v152, v153, v154, v155, v156, v157, v158, v159, v160, v161, v162, v163, v164, v165, v166, v167, v168, v169, v170, v171, v172, v173, v174, v175, v176, v177, v178, v179, v180, v181, v182, v183, v184, v185, v186, v187, v188, v189, v190, v191, u192, u193, u194, u195, u196, u197, u198, u199, u200, u201, u202, u203, u204, u205, v206, v207, v208, v209, v210, v211, v212, v213, v214, v215, v216, v217, v218, v219], []⟩ wx) :
    Code.wp Tryz.prog code41 (Exit.then K Q) ⟨#[.slice (some ⟨g, 0, none⟩) n cap, .int .i64 a, .int .i64 m, .int .i64 b, .func (.func 87) #[] #[], v5, v6, v7, v8, v9, v10, v11, v12, v13, v14, v15, v16, v17, .int .i64 mid, v19, .int .i64 i, v21, v22, v23, .int .i64 e, v25, v26, v27, v28, v29, v30, v31, v32, v33, v34, v35, v36, v37, v38, v39, v40, v41, v42, v43, v44, v45, v46, v47, v48, v49, v50, v51, v52, v53, v54, v55, v56, v57, v58, v59, v60, v61, v62, v63, v64, v65, v66, v67, v68, v69, v70, v71, v72, v73, v74, v75, v76, v77, v78, v79, v80, v81, v82, v83, v84, v85, v86, v87, v88, v89, v90, v91, v92, v93, v94, v95, v96, v97, v98, v99, v100, v101, v102, v103, v104, v105, v106, v107, v108, v109, v110, v111, v112, v113, v114, v115, v116, v117, v118, v119, v120, v121, v122, v123, v124, v125, v126, v127, v128, v129, v130, v131, v132, v133, v134, v135, v136, v137, v138, v139, v140, v141, v142, v143, v144, v145, v146, v147, v148, v149, v150, v151, v152, v153, v154, v155, v156, v157, v158, v159, v160, v161, v162, v163, v164, v165, v166, v167, v168, v169, v170, v171, v172, v173, v174, v175, v176, v177, v178, v179, v180, v181, v182, v183, v184, v185, v186, v187, v188, v189, v190, v191, v192, v193, v194, v195, v196, v197, v198, v199, v200, v201, v202, v203, v204, v205, v206, v207, v208, v209, v210, v211, v212, v213, v214, v215, v216, v217, v218, v219], []⟩ w := by
  have HK := Lib.hid hK
  have HJ := Lib.hid HI
  have IH := Lib.hid ih
  have HP1 := Lib.hid hp1
  have HP2 := Lib.hid hp2
  clear hK HI ih hp1 hp2
  conv => arg 2; whnf
  by_cases t1 : a < i
  · by_cases t2 : i < mid
    · go_wp2_with fail
      refine (IH.out r a i mid _ (by omega) HJ.out.st HJ.out.ok t1 t2 (by omega) HP1.out HP2.out).mono ?_
      rintro ee w1 ⟨rfl, q, k1, k2, k3, k4⟩
      have K1 := Lib.hid k1
      have K2 := Lib.hid k2
      have K3 := Lib.hid k3
      have K4 := Lib.hid k4
      clear k1 k2 k3 k4
      go_wp2_with fail
      exact HK.out _ _ _ _ _ _ _ _ _ _ _ _ _ _ _ ⟨q, HJ.out.further K1.out K2.out K3.out (Nat.le_refl _) (by omega) h3, K2.out, K4.out⟩
    · go_wp2_with fail
      exact HK.out _ _ _ _ _ _ _ _ _ _ _ _ _ _ _ ⟨r, HJ.out, Mix.refl _ _ _, HP1.out.sub (Nat.le_refl _) (by omega)⟩
  · go_wp2_with fail
    exact HK.out _ _ _ _ _ _ _ _ _ _ _ _ _ _ _ ⟨r, HJ.out, Mix.refl _ _ _, HP2.out.sub (by omega) (Nat.le_refl _)⟩

set_option maxHeartbeats 32000000 in
set_option maxRecDepth 1000000 in
theorem tail43 {W0 : World} {B g n cap : Nat} (f : Nat → Ent) (a m b mid i e : Nat) (r : Nat → Ent) (q : Nat → Ent) (s : Nat) (ih : ∀ (f : Nat → Ent) (a m b : Nat) (w : World), b - a ≤ s → St W0 B g n f w → OkE n f → a < m → m < b → b ≤ n → Srt ltE f a m → Srt ltE f m b → Calls Tryz.prog 137 #[.slice (some ⟨g, 0, none⟩) n cap, .int .i64 a, .int .i64 m, .int .i64 b, .func (.func 87) #[] #[]] w (SortPost W0 B g n f a b)) (v5 v6 v7 v8 v9 v10 v11 v12 v13 v14 v15 v16 v17 v19 v21 v22 v23 v25 v26 v27 v28 v29 v30 v31 v32 v33 v34 v35 v36 v37 v38 v39 v40 v41 v42 v43 v44 v45 v46 v47 v48 v49 v50 v51 v52 v53 v54 v55 v56 v57 v58 v59 v60 v61 v62 v63 v64 v65 v66 v67 v68 v69 v70 v71 v72 v73 v74 v75 v76 v77 v78 v79 v80 v81 v82 v83 v84 v85 v86 v87 v88 v89 v90 v91 v92 v93 v94 v95 v96 v97 v98 v99 v100 v101 v102 v103 v104 v105 v106 v107 v108 v109 v110 v111 v112 v113 v114 v115 v116 v117 v118 v119 v120 v121 v122 v123 v124 v125 v126 v127 v128 v129 v130 v131 v132 v133 v134 v135 v136 v137 v138 v139 v140 v141 v142 v143 v144 v145 v146 v147 v148 v149 v150 v151 v152 v153 v154 v155 v156 v157 v158 v159 v160 v161 v162 v163 v164 v165 v166 v167 v168 v169 v170 v171 v172 v173 v174 v175 v176 v177 v178 v179 v180 v181 v182 v183 v184 v185 v186 v187 v188 v189 v190 v191 v192 v193 v194 v195 v196 v197 v198 v199 v200 v201 v202 v203 v204 v205 v206 v207 v208 v209 v210 v211 v212 v213 v214 v215 v216 v217 v218 v219 : Value) (w : World)
    (c3 : e ≤ b) (c6 : mid ≤ e) (hm1 : a < mid) (h3 : b ≤ n) (hsz : b - a ≤ s + 1) (hp3 : Srt ltE r mid e) (hp4 : Srt ltE r e b) (hp5 : ∀ p q, a ≤ p → p < mid → mid ≤ q → q < b → ¬ ltE (r q) (r p)) (hm : Mix a mid r q) (hs : Srt ltE q a mid) (HI : InsAt W0 B g n f a b q w) :
    Code.wp Tryz.prog code43 (bodyPost Tryz.prog Tryz.f137 (SortPost W0 B g n f a b)) ⟨#[.slice (some ⟨g, 0, none⟩) n cap, .int .i64 a, .int .i64 m, .int .i64 b, .func (.func 87) #[] #[], v5, v6, v7, v8, v9, v10, v11, v12, v13, v14, v15, v16, v17, .int .i64 mid, v19, .int .i64 i, v21, v22, v23, .int .i64 e, v25, v26, v27, v28, v29, v30, v31, v32, v33, v34, v35, v36, v37, v38, v39, v40, v41, v42, v43, v44, v45, v46, v47, v48, v49, v50, v51, v52, v53, v54, v55, v56, v57, v58, v59, v60, v61, v62, v63, v64, v65, v66, v67, v68, v69, v70, v71, v72, v73, v74, v75, v76, v77, v78, v79, v80, v81, v82, v83, v84, v85, v86, v87, v88, v89, v90, v91, v92, v93, v94, v95, v96, v97, v98, v99, v100, v101, v102, v103, v104, v105, v106, v107, v108, v109, v110, v111, v112, v113, v114, v115, v116, v117, v118, v119, v120, v121, v122, v123, v124, v125, v126, v127, v128, v129, v130, v131, v132, v133, v134, v135, v136, v137, v138, v139, v140, v141, v142, v143, v144, v145, v146, v147, v148, v149, v150, v151, v152, v153, v154, v155, v156, v157, v158, v159, v160, v161, v162, v163, v164, v165, v166, v167, v168, v169, v170, v171, v172, v173, v174, v175, v176, v177, v178, v179, v180, v181, v182, v183, v184, v185, v186, v187, v188, v189, v190, v191, v192, v193, v194, v195, v196, v197, v198, v199, v200, v201, v202, v203, v204, v205, v206, v207, v208, v209, v210, v211, v212, v213, v214, v215, v216, v217, v218, v219], []⟩ w := by
  have HJ := Lib.hid HI
  have IH := Lib.hid ih
  have HQ3 : Hid (Srt ltE q mid e) := hp3.congr fun k x y => hm.1 k (by omega)
  have HQ4 : Hid (Srt ltE q e b) := hp4.congr fun k x y => hm.1 k (by omega)
  have HP5 := Lib.hid hp5
  have HM1 := Lib.hid hm
  have HS1 := Lib.hid hs
  clear HI ih hp3 hp4 hp5 hm hs
  conv => arg 2; whnf
  by_cases t1 : mid < e
  · by_cases t2 : e < b
    · go_wp2_with fail
      refine (IH.out q mid e b _ (by omega) HJ.out.st HJ.out.ok t1 t2 h3 HQ3.out HQ4.out).mono ?_
      rintro ee w1 ⟨rfl, q2, k1, k2, k3, k4⟩
      have K1 := Lib.hid k1
      have K2 := Lib.hid k2
      have K3 := Lib.hid k3
      have K4 := Lib.hid k4
      clear k1 k2 k3 k4
      go_wp2_with fail
      go_end0
      have hi := HJ.out.further K1.out K2.out K3.out (by omega) (Nat.le_refl _) h3
      exact ⟨rfl, q2, hi.st, hi.mx, hi.pm, merged ordE HP5.out HM1.out K2.out HS1.out K4.out⟩
    · go_wp2_with fail
      go_end0
      exact ⟨rfl, q, HJ.out.st, HJ.out.mx, HJ.out.pm, merged ordE HP5.out HM1.out (Mix.refl _ _ _) HS1.out (HQ3.out.sub (Nat.le_refl _) (by omega))⟩
  · go_wp2_with fail
    go_end0
    exact ⟨rfl, q, HJ.out.st, HJ.out.mx, HJ.out.pm, merged ordE HP5.out HM1.out (Mix.refl _ _ _) HS1.out (HQ4.out.sub (by omega) (Nat.le_refl _))⟩

set_option maxHeartbeats 32000000 in
set_option maxRecDepth 100000 in
theorem merge_any {W0 : World} {B g n cap : Nat} (hn : n < 1000) : ∀ (s : Nat) (f : Nat → Ent) (a m b : Nat) (w : World), b - a ≤ s → St W0 B g n f w → OkE n f → a < m → m < b → b ≤ n → Srt ltE f a m → Srt ltE f m b →
    Calls Tryz.prog 137 #[.slice (some ⟨g, 0, none⟩) n cap, .int .i64 a, .int .i64 m, .int .i64 b, .func (.func 87) #[] #[]] w (SortPost W0 B g n f a b) := by
  intro s
  induction s with
  | zero => intro f a m b w hsz; intros; omega
  | succ s ih =>
  intro f a m b w hsz h hok h1 h2 h3 hs1 hs2
  by_cases hma : m = a + 1
  · exact merge_left f a m b cap w h hok hma h2 h3 hn (by subst hma; exact hs2)
  by_cases hmb : b = m + 1
  · exact merge_right f a m b cap w h hok hmb hma h1 h3 hn hs1
  have HS : Hid (InsAt W0 B g n f a b f w) := .mk' h hok
  have HT1 := Lib.hid hs1
  have HT2 := Lib.hid hs2
  have IH := Lib.hid ih
  have hma' : ((m : Int) - (a : Int) == 1) = false := by simp; omega
  have hmb' : ((b : Int) - (m : Int) == 1) = false := by simp; omega
  obtain ⟨mid, hm⟩ : ∃ mid, mid = (a + b) / 2 := ⟨_, rfl⟩
  have hmid : ((a : Int) + (b : Int)) / 2 = (mid : Int) := by omega
  have hm1 : a < mid := by omega
  have hm2 : mid < b := by omega
  have hm3 : mid + mid ≤ a + b := by omega
  have hm4 : a + b ≤ mid + mid + 1 := by omega
  clear h hok hs1 hs2 ih hm hma hmb
  go_enter Tryz.func137, Tryz.ntmps137
  go_upto_if 140 with fail
  go_cut [20, 21] (fun v20 v21 wx => wx = w ∧ ∃ s0 r0 : Nat, v20 = .int .i64 s0 ∧ v21 = .int .i64 r0 ∧ (mid < m ∧ s0 + b = mid + m ∧ r0 = mid ∨ m ≤ mid ∧ s0 = a ∧ r0 = m))
  case first =>
    by_cases hmm : mid < m
    · go_wp2_with fail
      go_meet
      exact ⟨rfl, mid + m - b, mid, by go_num, rfl, .inl ⟨hmm, by omega, rfl⟩⟩
    · go_wp2_with fail
      go_meet
      exact ⟨rfl, a, m, rfl, rfl, .inr ⟨by omega, rfl, rfl⟩⟩
  case rest =>
  obtain ⟨rfl, s0, r0, rfl, rfl, hsr⟩ := hcut
  have b1 : a ≤ s0 := by omega
  have b2 : r0 ≤ m := by omega
  have b3 : s0 ≤ r0 := by omega
  obtain ⟨t, ht⟩ : ∃ t, t = mid + m - 1 := ⟨_, rfl⟩
  have hti : (mid : Int) + (m : Int) - 1 = (t : Int) := by omega
  have b4 : t - s0 < b := by omega
  have b5 : m + r0 ≤ t + 1 := by omega
  have b6 : mid + m ≤ t + 1 := by omega
  have b7 : t + 1 ≤ mid + m := by omega
  have HT0 := Lib.hid ht
  clear ht
  go_wp2_with fail
  go_loopw [20, 21, 23] (fun vi vj _ wr => ∃ (i j : Nat), vi = .int .i64 i ∧ vj = .int .i64 j ∧ s0 ≤ i ∧ i ≤ j ∧ j ≤ r0 ∧ Hid (Lo f t s0 i) ∧ Hid (Hi f t j r0) ∧ Hid (InsAt W0 B g n f a b f wr)) (fun vi vj _ _ => (intOf vj).toNat - (intOf vi).toNat)
  case atStart =>
    exact ⟨s0, r0, rfl, rfl, Nat.le_refl _, b3, Nat.le_refl _, fun c x y => by omega, fun c x y => by omega, HS.out⟩
  case round =>
    obtain ⟨i, j, rfl, rfl, hi1, hij, hjr, HL, HG, HI⟩ := hrel
    by_cases hlt : i < j
    · obtain ⟨c, hc⟩ : ∃ c, c = (i + j) / 2 := ⟨_, rfl⟩
      have hc1 : i ≤ c := by omega
      have hc2 : c < j := by omega
      have hci : ((i : Int) + (j : Int)) / 2 = (c : Int) := by omega
      obtain ⟨d, hd⟩ : ∃ d, d = t - c := ⟨_, rfl⟩
      have hd' : t - c = d := hd.symm
      have q1 : (t : Int) - (c : Int) < (n : Int) := by omega
      have q2 : (0 : Int) ≤ (t : Int) - (c : Int) := by omega
      have q3 : (c : Int) ≤ (t : Int) := by omega
      have q4 : ((t : Int) - (c : Int)).toNat = d := by omega
      have q5 : IntKind.i64.wrap ((t : Int) - (c : Int)) = (t : Int) - (c : Int) := by rw [IntKind.wrap_i64]; omega
      have p2 : (c : Int) < (n : Int) := by omega
      clear hc hd
      have x0 := (HI.out.st).c0 (d) (by omega)
      have x1 := (HI.out.st).c1 (d) (by omega)
      obtain ⟨tx, htx⟩ : ∃ v, v = (f (d)).k.ty := ⟨_, rfl⟩
      obtain ⟨vx, hvx⟩ : ∃ v, v = (f (d)).k.body := ⟨_, rfl⟩
      obtain ⟨sx, hsx⟩ : ∃ v, v = (f (d)).t := ⟨_, rfl⟩
      obtain ⟨zx, hzx⟩ : ∃ v, v = (f (d)).y := ⟨_, rfl⟩
      rw [← htx, ← hvx] at x0
      rw [← hsx, ← hzx] at x1
      have HTx := Lib.hid htx
      have HVx := Lib.hid hvx
      have HSx := Lib.hid hsx
      have HZx := Lib.hid hzx
      have y0 := (HI.out.st).c0 (c) (by omega)
      have y1 := (HI.out.st).c1 (c) (by omega)
      obtain ⟨ty, hty⟩ : ∃ v, v = (f (c)).k.ty := ⟨_, rfl⟩
      obtain ⟨vy, hvy⟩ : ∃ v, v = (f (c)).k.body := ⟨_, rfl⟩
      obtain ⟨sy, hsy⟩ : ∃ v, v = (f (c)).t := ⟨_, rfl⟩
      obtain ⟨zy, hzy⟩ : ∃ v, v = (f (c)).y := ⟨_, rfl⟩
      rw [← hty, ← hvy] at y0
      rw [← hsy, ← hzy] at y1
      have HTy := Lib.hid hty
      have HVy := Lib.hid hvy
      have HSy := Lib.hid hsy
      have HZy := Lib.hid hzy
      obtain ⟨cc, hcc⟩ : ∃ cc, cc = cmpK (f (d)).k (f (c)).k := ⟨_, rfl⟩
      have HCC := Lib.hid hcc
      have HC : Hid (∀ W : World, Calls Tryz.prog 87 #[.agg #[.iface tx vx, .iface sx zx], .agg #[.iface ty vy, .iface sy zy]] W fun e w' => e = .returned (.int .i64 cc) ∧ Below W.heap.size W w') := by
        intro W
        have := cmp71 (f (d)) (f (c)) (HI.out.ok (d) (by omega)) (HI.out.ok (c) (by omega)) W
        rw [ordL_eq (HI.out.ok (d) (by omega)) (HI.out.ok (c) (by omega)), ← hcc, ← htx, ← hvx, ← hsx, ← hzx, ← hty, ← hvy, ← hsy, ← hzy] at this
        exact this
      clear hcc
      clear htx hvx hsx hzx hty hvy hsy hzy
      go_wp2_with fail
      go_region_held3 (fun w' => w'.cell? ⟨g, d * 2, none⟩ = some (.iface tx vx) ∧ w'.cell? ⟨g, d * 2 + 1, none⟩ = some (.iface sx zx) ∧ w'.cell? ⟨g, c * 2, none⟩ = some (.iface ty vy) ∧ w'.cell? ⟨g, c * 2 + 1, none⟩ = some (.iface sy zy)) (first | exact ⟨x0, x1, y0, y1⟩ | (refine ⟨?_, ?_, ?_, ?_⟩ <;> (with_reducible (refine cell_below HBc.out ?_)) <;> assumption)) (first
        | (go_at_call 87; (with_reducible refine (HC.out _).mono ?_); rintro e w5 ⟨rfl, hBc⟩; have HBc := Lib.hid hBc; clear hBc))
      have HJ5 := Lib.hid (HI.out.drew.call HBc.out)
      clear x0 x1 y0 y1
      by_cases hneg : cc < 0
      · have hn2 : decide (cc < 0) = true := by simpa using hneg
        have hn3 : (!decide (cc < 0)) = false := by rw [hn2]; rfl
        rw [hn3]
        go_wp2_with fail
        go_roundw
        case rel => exact ⟨i, c, rfl, rfl, hi1, hc1, by omega, HL.out, HG.out.go HT1.out HT2.out (by omega) hc2 b1 b2 hjr b4 b5 (by rw [hd']; unfold ltE; rw [← HCC.out]; exact hneg), HJ5.out⟩
        case measure => simp [intOf]; omega
      · have hn2 : decide (cc < 0) = false := by simpa using hneg
        have hn3 : (!decide (cc < 0)) = true := by rw [hn2]; rfl
        rw [hn3]
        go_wp2_with fail
        go_roundw
        case rel => exact ⟨c + 1, j, by go_num, rfl, by omega, by omega, hjr, HL.out.go HT1.out HT2.out hc1 (by omega) b1 b2 hi1 b4 b5 (by rw [hd']; unfold ltE; rw [← HCC.out]; omega), HG.out, HJ5.out⟩
        case measure => simp [intOf]; omega
    · obtain rfl : i = j := by omega
      obtain ⟨e, he⟩ : ∃ e, e = mid + m - i := ⟨_, rfl⟩
      have hei : (mid : Int) + (m : Int) - (i : Int) = (e : Int) := by omega
      have hcut : Cut ltE f a m b mid i := by
        refine ⟨by omega, by omega, by omega, by omega, by omega, ?_, ?_⟩
        · intro x y
          have := HL.out (i - 1) (by omega) (by omega)
          rwa [show t - (i - 1) = mid + m - i by omega] at this
        · intro x y
          have := HG.out i (Nat.le_refl _) (by omega)
          rwa [show t - i = mid + m - i - 1 by omega] at this
      have hp := hcut.parts ordE (by omega) (by omega) (by omega) (by omega) HT1.out HT2.out
      have c1 : i ≤ m := hcut.h2
      have c2 : m ≤ e := by rw [he]; exact hcut.h4
      have c3 : e ≤ b := by rw [he]; exact hcut.h5
      have c4 : i ≤ mid := hcut.h3
      have c5 : a ≤ i := hcut.h1
      have c6 : mid ≤ e := by omega
      rw [← he] at hp
      obtain ⟨r, hr⟩ : ∃ r, r = rot f i m e := ⟨_, rfl⟩
      rw [← hr] at hp
      obtain ⟨hp1, hp2, hp3, hp4, hp5⟩ := hp
      clear hcut he
      go_upto_region 38 with fail
      go_cut [24] (fun v24 wx => wx = wr ∧ v24 = .int .i64 e)
      case first =>
        go_wp2_with fail
        go_meet
        exact ⟨rfl, rfl⟩
      case rest =>
      obtain ⟨rfl, rfl⟩ := hcut
      apply_assumption
      refine wp_seq ?_
      refine tail39 f a m b mid i e r hn _ _ _ _ _ _ _ _ _ _ _ _ _ _ _ _ _ _ _ _ _ _ _ _ _ _ _ _ _ _ _ _ _ _ _ _ _ _ _ _ _ _ _ _ _ _ _ _ _ _ _ _ _ _ _ _ _ _ _ _ _ _ _ _ _ _ _ _ _ _ _ _ _ _ _ _ _ _ _ _ _ _ _ _ _ _ _ _ _ _ _ _ _ _ _ _ _ _ _ _ _ _ _ _ _ _ _ _ _ _ _ _ _ _ _ _ _ _ _ _ _ _ _ _ _ _ _ _ _ _ _ _ _ _ _ _ _ _ _ _ _ _ _ _ _ _ _ _ _ _ _ _ _ _ _ _ _ _ _ _ _ _ _ _ _ _ _ _ _ _ _ _ _ _ _ _ _ _ _ _ _ _ _ _ _ _ _ _ _ _ _ _ _ _ _ _ _ _ _ _ _ _ _ _ _ _ _ _ _ _ _ _ _ _ _ c1 c2 c3 c5 h3 hr HI.out ?_
      intro _ _ _ _ _ _ _ _ _ _ _ _ _ _ wx hx
      refine wp_seq ?_
      refine tail41 f a m b mid i e r s IH.out _ _ _ _ _ _ _ _ _ _ _ _ _ _ _ _ _ _ _ _ _ _ _ _ _ _ _ _ _ _ _ _ _ _ _ _ _ _ _ _ _ _ _ _ _ _ _ _ _ _ _ _ _ _ _ _ _ _ _ _ _ _ _ _ _ _ _ _ _ _ _ _ _ _ _ _ _ _ _ _ _ _ _ _ _ _ _ _ _ _ _ _ _ _ _ _ _ _ _ _ _ _ _ _ _ _ _ _ _ _ _ _ _ _ _ _ _ _ _ _ _ _ _ _ _ _ _ _ _ _ _ _ _ _ _ _ _ _ _ _ _ _ _ _ _ _ _ _ _ _ _ _ _ _ _ _ _ _ _ _ _ _ _ _ _ _ _ _ _ _ _ _ _ _ _ _ _ _ _ _ _ _ _ _ _ _ _ _ _ _ _ _ _ _ _ _ _ _ _ _ _ _ _ _ _ _ _ _ _ _ _ _ _ _ _ c4 c5 hm2 h3 hsz hp1 hp2 hx ?_
      rintro _ _ _ _ _ _ _ _ _ _ _ _ _ _ wy ⟨q, k1, k2, k3⟩
      exact tail43 f a m b mid i e r q s IH.out _ _ _ _ _ _ _ _ _ _ _ _ _ _ _ _ _ _ _ _ _ _ _ _ _ _ _ _ _ _ _ _ _ _ _ _ _ _ _ _ _ _ _ _ _ _ _ _ _ _ _ _ _ _ _ _ _ _ _ _ _ _ _ _ _ _ _ _ _ _ _ _ _ _ _ _ _ _ _ _ _ _ _ _ _ _ _ _ _ _ _ _ _ _ _ _ _ _ _ _ _ _ _ _ _ _ _ _ _ _ _ _ _ _ _ _ _ _ _ _ _ _ _ _ _ _ _ _ _ _ _ _ _ _ _ _ _ _ _ _ _ _ _ _ _ _ _ _ _ _ _ _ _ _ _ _ _ _ _ _ _ _ _ _ _ _ _ _ _ _ _ _ _ _ _ _ _ _ _ _ _ _ _ _ _ _ _ _ _ _ _ _ _ _ _ _ _ _ _ _ _ _ _ _ _ _ _ _ _ _ _ _ _ c3 c6 hm1 h3 hsz hp3 hp4 hp5 k2 k3 k1
end Go.Proofs.YtkpfeodffhfejaaGreatDoor
