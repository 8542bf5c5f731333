/- Region 27 of digest; no statement of the seat is proved here. -/
import Derived.Test.YtdnpcpeibjckmaaShaDigL
import Derived.BigRegion
import Derived.StillTailTactics
namespace Go.Proofs.Ytdnpcpeibjckmaa
open Go.RowKit

/-- A region of a code, by its number. -/
def reg (n : Nat) : Code → Option Code
  | .region id ops b => if id = n then some (.region id ops b) else none
  | .seq a b => match reg n a with
    | some c => some c
    | none => reg n b
  | .cond _ a b => match reg n a with
    | some c => some c
    | none => reg n b
  | .block _ c => reg n c
  | .loop c => reg n c
  | .scope c => reg n c
  | _ => none
set_option maxRecDepth 100000 in
theorem clos_any (x : Int) (n : Nat) (h1 : 1 ≤ n) (h2 : n < 32) (w : World) : Calls Try.prog 17 #[.int .u32 x, .int .u64 n] w fun e w' => e = .returned (.int .u32 (rot x n)) ∧ w' = w := by
  go_enter Try.func17, Try.ntmps17
  go_wp2_with fail
  go_ret
  exact ⟨rfl, rfl⟩

set_option maxRecDepth 100000 in
set_option maxHeartbeats 4000000 in
theorem reg27 {Q : Exit → Act → World → Prop} {v0 v1 v2 v3 v4 v5 v6 v7 v9 v11 v12 v14 v15 v16 v17 v18 v19 v20 v21 v22 v23 v24 v25 v26 v27 v28 v29 v30 v31 v32 v33 v34 v35 v36 v37 v38 v39 v40 v41 v42 v43 v44 v45 v46 v47 v48 v49 v50 v51 v52 v53 v54 v55 v56 v57 v58 v59 v60 v61 v62 v63 v64 v65 v66 v67 v68 v69 v70 v71 v72 v73 v74 v75 v76 v77 v78 v79 v80 v81 v82 v83 v84 v85 v86 v87 v88 v89 v90 v91 v92 v93 v94 v95 v96 v97 v98 v99 v100 v101 v102 v103 v104 v105 v106 v107 v108 v109 v110 v111 v112 v113 v114 v115 v116 v117 v118 v119 v120 v121 v122 v123 v124 v125 v126 v127 v128 v129 v130 v131 v132 v133 v134 v135 v136 v137 v138 v139 v140 v141 v142 v143 v144 v145 v146 v147 v148 : Value} {T : List Value} (wr : World) (gw j a0 a1 a9 ae : Nat) (a b1 c1 d1 z1 : Int) (g0 : wr.cell? ⟨gw, a0, none⟩ = some (U a)) (g1 : wr.cell? ⟨gw, a1, none⟩ = some (U b1)) (g9 : wr.cell? ⟨gw, a9, none⟩ = some (U c1)) (ge : wr.cell? ⟨gw, ae, none⟩ = some (U d1)) (gz : wr.cell? ⟨gw, j, none⟩ = some (U z1)) (fz : wr.frozen? ⟨gw, j, none⟩ = false) (h0 : a0 + 16 = j) (h1 : a1 + 15 = j) (h9 : a9 + 7 = j) (he : ae + 2 = j) (hj : j < 64)
    (h : ∀ u89 u90 u91 u92 u93 u94 u95 u96 u97 u98 u99 u100 u101 u102 u103 u104 u105 u106 u107 u108 u109 u110 u111 u112 u113 u114 u115 u116 u117 u118 u119 u120 u121 u122 u123 u124 u125 u126 u127 u128 u129 u130 u131 u132 u133 u134 u135 u136 u137 u138 u139 u140 u141 u142 u143 u144 u145 u146 u147 u148 : Value, Q .normal ⟨(v0 :: v1 :: v2 :: v3 :: v4 :: v5 :: v6 :: v7 :: (.func (.func 17) #[] #[]) :: v9 :: (.slice (some ⟨gw, 0, none⟩) 64 64) :: v11 :: v12 :: (.int .i64 (j : Int)) :: v14 :: v15 :: v16 :: v17 :: v18 :: v19 :: v20 :: v21 :: v22 :: v23 :: v24 :: v25 :: v26 :: v27 :: v28 :: v29 :: v30 :: v31 :: v32 :: v33 :: v34 :: v35 :: v36 :: v37 :: v38 :: v39 :: v40 :: v41 :: v42 :: v43 :: v44 :: v45 :: v46 :: v47 :: v48 :: v49 :: v50 :: v51 :: v52 :: v53 :: v54 :: v55 :: v56 :: v57 :: v58 :: v59 :: v60 :: v61 :: v62 :: v63 :: v64 :: v65 :: v66 :: v67 :: v68 :: v69 :: v70 :: v71 :: v72 :: v73 :: v74 :: v75 :: v76 :: v77 :: v78 :: v79 :: v80 :: v81 :: v82 :: v83 :: v84 :: v85 :: v86 :: v87 :: v88 :: u89 :: u90 :: u91 :: u92 :: u93 :: u94 :: u95 :: u96 :: u97 :: u98 :: u99 :: u100 :: u101 :: u102 :: u103 :: u104 :: u105 :: u106 :: u107 :: u108 :: u109 :: u110 :: u111 :: u112 :: u113 :: u114 :: u115 :: u116 :: u117 :: u118 :: u119 :: u120 :: u121 :: u122 :: u123 :: u124 :: u125 :: u126 :: u127 :: u128 :: u129 :: u130 :: u131 :: u132 :: u133 :: u134 :: u135 :: u136 :: u137 :: u138 :: u139 :: u140 :: u141 :: u142 :: u143 :: u144 :: u145 :: u146 :: u147 :: u148 :: T).toArray, []⟩ (wr.setCell ⟨gw, j, none⟩ (.int .u32 (sNext a b1 c1 d1))).drew) :
    Code.wp Try.prog ((Try.f10.body.bind (reg 27)).getD .skip) Q ⟨(v0 :: v1 :: v2 :: v3 :: v4 :: v5 :: v6 :: v7 :: (.func (.func 17) #[] #[]) :: v9 :: (.slice (some ⟨gw, 0, none⟩) 64 64) :: v11 :: v12 :: (.int .i64 (j : Int)) :: v14 :: v15 :: v16 :: v17 :: v18 :: v19 :: v20 :: v21 :: v22 :: v23 :: v24 :: v25 :: v26 :: v27 :: v28 :: v29 :: v30 :: v31 :: v32 :: v33 :: v34 :: v35 :: v36 :: v37 :: v38 :: v39 :: v40 :: v41 :: v42 :: v43 :: v44 :: v45 :: v46 :: v47 :: v48 :: v49 :: v50 :: v51 :: v52 :: v53 :: v54 :: v55 :: v56 :: v57 :: v58 :: v59 :: v60 :: v61 :: v62 :: v63 :: v64 :: v65 :: v66 :: v67 :: v68 :: v69 :: v70 :: v71 :: v72 :: v73 :: v74 :: v75 :: v76 :: v77 :: v78 :: v79 :: v80 :: v81 :: v82 :: v83 :: v84 :: v85 :: v86 :: v87 :: v88 :: v89 :: v90 :: v91 :: v92 :: v93 :: v94 :: v95 :: v96 :: v97 :: v98 :: v99 :: v100 :: v101 :: v102 :: v103 :: v104 :: v105 :: v106 :: v107 :: v108 :: v109 :: v110 :: v111 :: v112 :: v113 :: v114 :: v115 :: v116 :: v117 :: v118 :: v119 :: v120 :: v121 :: v122 :: v123 :: v124 :: v125 :: v126 :: v127 :: v128 :: v129 :: v130 :: v131 :: v132 :: v133 :: v134 :: v135 :: v136 :: v137 :: v138 :: v139 :: v140 :: v141 :: v142 :: v143 :: v144 :: v145 :: v146 :: v147 :: v148 :: T).toArray, []⟩ wr := by
  have e0 : IntKind.i64.wrap ((j : Int) - 16) = (a0 : Int) := by rw [IntWalk.i64_in _ (by omega)]; omega
  have e1 : IntKind.i64.wrap ((j : Int) - 15) = (a1 : Int) := by rw [IntWalk.i64_in _ (by omega)]; omega
  have e2 : IntKind.i64.wrap ((j : Int) - 7) = (a9 : Int) := by rw [IntWalk.i64_in _ (by omega)]; omega
  have e3 : IntKind.i64.wrap ((j : Int) - 2) = (ae : Int) := by rw [IntWalk.i64_in _ (by omega)]; omega
  have r0 : (0 : Int) ≤ (a0 : Int) := by omega
  have r1 : (0 : Int) ≤ (a1 : Int) := by omega
  have r2 : (0 : Int) ≤ (a9 : Int) := by omega
  have r3 : (0 : Int) ≤ (ae : Int) := by omega
  have r4 : (0 : Int) ≤ (j : Int) := by omega
  have q0 : (a0 : Int) < 64 := by omega
  have q1 : (a1 : Int) < 64 := by omega
  have q2 : (a9 : Int) < 64 := by omega
  have q3 : (ae : Int) < 64 := by omega
  have q4 : (j : Int) < 64 := by omega
  have HE : sNext a b1 c1 d1 = (((a + bits .xor .u32 (bits .xor .u32 (rot b1 7) (rot b1 18)) (b1 / 8)) % 4294967296 + c1) % 4294967296 + bits .xor .u32 (bits .xor .u32 (rot d1 17) (rot d1 19)) (d1 / 1024)) % 4294967296 := by
    simp only [sNext, sg0, sg1]
    generalize bits .xor .u32 (bits .xor .u32 (rot b1 7) (rot b1 18)) (b1 / 8) = x
    generalize bits .xor .u32 (bits .xor .u32 (rot d1 17) (rot d1 19)) (d1 / 1024) = y
    omega
  simp only [HE] at h
  have H := hide h
  clear h HE h0 h1 h9 he
  conv => arg 2; whnf
  go_still_tail 60, (by kernel_rfl)
  repeat (first | still_step | still_call (clos_any _ _ (by decide) (by decide) _))
  refine wpStill_nil ?_
  go_wp2_with fail
  refine H.out _ _ _ _ _ _ _ _ _ _ _ _ _ _ _ _ _ _ _ _ _ _ _ _ _ _ _ _ _ _ _ _ _ _ _ _ _ _ _ _ _ _ _ _ _ _ _ _ _ _ _ _ _ _ _ _ _ _ _ _
end Go.Proofs.Ytdnpcpeibjckmaa
