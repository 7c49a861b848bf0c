import Derived.Test.YtpjdgiiphohjeaaGreatDoorSeatW
open Go Go.AM Go.Proofs
namespace Go.AM
set_option maxRecDepth 100000
set_option linter.unusedVariables false
def admit_within_g1 (v0 : AVal) (x0 : AVal) (h : Heap) (x2 : AVal) (K : AVal → Heap → Prop) : Prop :=
  gw v0 true (fun K => K x0 h) h fun v1 h2 =>
  gw v0 true (fun K => K x2 h2) h2 fun v3 h4 =>
  gw v0 true (fun K => rd h4 (.bin .leq none v1 v3) fun v5 => K v5 h4) h4 fun v6 h7 =>
  rd h7 (.pick v0 v6 (.bool false)) fun v8 =>
  K v8 h7
theorem admit_within_g1_mono {v0 : AVal} {x0 : AVal} {h : Heap} {x2 : AVal} {K L : AVal → Heap → Prop} (hk : ∀ v h, K v h → L v h) (w : admit_within_g1 v0 x0 h x2 K) : admit_within_g1 v0 x0 h x2 L := (gw_mv_mono fun _ _ => (gw_mv_mono fun _ _ => (gw_rd_mono fun _ _ => (rd_mono fun _ => hk _ _)))) w
@[congr] theorem admit_within_g1_congr {v0 v0' : AVal} {x0 x0' : AVal} {h h' : Heap} {x2 x2' : AVal} {K : AVal → Heap → Prop} (e0 : v0 = v0') (e1 : x0 = x0') (e2 : h = h') (e3 : x2 = x2') {u : Unit} (_t : tokA = u) : admit_within_g1 v0 x0 h x2 K = admit_within_g1 v0' x0' h' x2' K := by rw [e0, e1, e2, e3]

/-- coxswain/admit.within -/
def admit_within (x0 x1 x2 : AVal) (h : Heap) (Q : AVal → Heap → Prop) : Prop :=
  rd h (.bin .geq none x0 x1) fun v0 =>
  admit_within_g1 v0 x0 h x2 fun v9 h10 =>
  Q v9 h10
theorem admit_within_wp {x0 x1 x2 : AVal} {h : Heap} {Q : AVal → Heap → Prop} (H : admit_within x0 x1 x2 h Q) : cl n_admit_within [x0, x1, x2] h Q :=
  wcl (vs := []) (fn := compFunc tb21 Tryz.f67) (by kernel_rfl) (by kernel_rfl) (by kernel_rfl : admit_within x0 x1 x2 h Q = wpG cl [] (compFunc tb21 Tryz.f67) [x0, x1, x2] h Q) H
def admit_mayTask_g1 (v6 : AVal) (h3 : Heap) (v2 : AVal) (K : AVal → Heap → Prop) : Prop :=
  gw v6 true (fun K => rd h3 (.fieldAddr 1 v2) fun v7 => K v7 h3) h3 fun v8 h9 =>
  gw v6 true (fun K => rd h9 (.load1 v8) fun v10 => K v10 h9) h9 fun v11 h12 =>
  gw v6 true (fun K => cl n_admit_within [v11, (.int .i64 0), (.int .i64 63)] h12 fun v13 h14 => K v13 h14) h12 fun v15 h16 =>
  rd h16 (.pick v6 v15 (.bool false)) fun v17 =>
  K v17 h16
theorem admit_mayTask_g1_mono {v6 : AVal} {h3 : Heap} {v2 : AVal} {K L : AVal → Heap → Prop} (hk : ∀ v h, K v h → L v h) (w : admit_mayTask_g1 v6 h3 v2 K) : admit_mayTask_g1 v6 h3 v2 L := (gw_rd_mono fun _ _ => (gw_rd_mono fun _ _ => (gw_cl_mono fun _ _ => (rd_mono fun _ => hk _ _)))) w
@[congr] theorem admit_mayTask_g1_congr {v6 v6' : AVal} {h3 h3' : Heap} {v2 v2' : AVal} {K : AVal → Heap → Prop} (e0 : v6 = v6') (e1 : h3 = h3') (e2 : v2 = v2') {u : Unit} (_t : tokA = u) : admit_mayTask_g1 v6 h3 v2 K = admit_mayTask_g1 v6' h3' v2' K := by rw [e0, e1, e2]

def admit_mayTask_g2 (v18 : AVal) (h19 : Heap) (v2 : AVal) (K : AVal → Heap → Prop) : Prop :=
  gw v18 false (fun K => rd h19 (.fieldAddr 0 v2) fun v20 => K v20 h19) h19 fun v21 h22 =>
  gw v18 false (fun K => rd h22 (.load1 v21) fun v23 => K v23 h22) h22 fun v24 h25 =>
  gw v18 false (fun K => rd h25 (.bin .eql (some (.leaf .int)) v24 (.int .i64 1)) fun v26 => K v26 h25) h25 fun v27 h28 =>
  gw v18 false (fun K => K v27 h28) h28 fun v29 h30 =>
  gw v29 true (fun K => rd h30 (.fieldAddr 1 v2) fun v31 => K v31 h30) h30 fun v32 h33 =>
  gw v29 true (fun K => rd h33 (.load1 v32) fun v34 => K v34 h33) h33 fun v35 h36 =>
  gw v29 true (fun K => rd h36 (.bin .eql (some (.leaf .int)) v35 (.int .i64 0)) fun v37 => K v37 h36) h36 fun v38 h39 =>
  gw v18 false (fun K => rd h39 (.pick v29 v38 (.bool false)) fun v40 => K v40 h39) h39 fun v41 h42 =>
  rd h42 (.pick v18 (.bool true) v41) fun v43 =>
  K v43 h42
theorem admit_mayTask_g2_mono {v18 : AVal} {h19 : Heap} {v2 : AVal} {K L : AVal → Heap → Prop} (hk : ∀ v h, K v h → L v h) (w : admit_mayTask_g2 v18 h19 v2 K) : admit_mayTask_g2 v18 h19 v2 L := (gw_rd_mono fun _ _ => (gw_rd_mono fun _ _ => (gw_rd_mono fun _ _ => (gw_mv_mono fun _ _ => (gw_rd_mono fun _ _ => (gw_rd_mono fun _ _ => (gw_rd_mono fun _ _ => (gw_rd_mono fun _ _ => (rd_mono fun _ => hk _ _))))))))) w
@[congr] theorem admit_mayTask_g2_congr {v18 v18' : AVal} {h19 h19' : Heap} {v2 v2' : AVal} {K : AVal → Heap → Prop} (e0 : v18 = v18') (e1 : h19 = h19') (e2 : v2 = v2') {u : Unit} (_t : tokA = u) : admit_mayTask_g2 v18 h19 v2 K = admit_mayTask_g2 v18' h19' v2' K := by rw [e0, e1, e2]

def admit_mayTask_g3 (v48 : AVal) (h49 : Heap) (v2 : AVal) (K : AVal → Heap → Prop) : Prop :=
  gw v48 true (fun K => rd h49 (.fieldAddr 3 v2) fun v50 => K v50 h49) h49 fun v51 h52 =>
  gw v48 true (fun K => rd h52 (.load1 v51) fun v53 => K v53 h52) h52 fun v54 h55 =>
  gw v48 true (fun K => rd h55 (.fieldAddr 2 v2) fun v56 => K v56 h55) h55 fun v57 h58 =>
  gw v48 true (fun K => rd h58 (.load1 v57) fun v59 => K v59 h58) h58 fun v60 h61 =>
  gw v48 true (fun K => cl n_admit_within [v54, (.int .i64 1), v60] h61 fun v62 h63 => K v62 h63) h61 fun v64 h65 =>
  rd h65 (.pick v48 v64 (.bool false)) fun v66 =>
  K v66 h65
theorem admit_mayTask_g3_mono {v48 : AVal} {h49 : Heap} {v2 : AVal} {K L : AVal → Heap → Prop} (hk : ∀ v h, K v h → L v h) (w : admit_mayTask_g3 v48 h49 v2 K) : admit_mayTask_g3 v48 h49 v2 L := (gw_rd_mono fun _ _ => (gw_rd_mono fun _ _ => (gw_rd_mono fun _ _ => (gw_rd_mono fun _ _ => (gw_cl_mono fun _ _ => (rd_mono fun _ => hk _ _)))))) w
@[congr] theorem admit_mayTask_g3_congr {v48 v48' : AVal} {h49 h49' : Heap} {v2 v2' : AVal} {K : AVal → Heap → Prop} (e0 : v48 = v48') (e1 : h49 = h49') (e2 : v2 = v2') {u : Unit} (_t : tokA = u) : admit_mayTask_g3 v48 h49 v2 K = admit_mayTask_g3 v48' h49' v2' K := by rw [e0, e1, e2]

def admit_mayTask_g4 (v67 : AVal) (h68 : Heap) (v2 : AVal) (K : AVal → Heap → Prop) : Prop :=
  gw v67 true (fun K => rd h68 (.fieldAddr 4 v2) fun v69 => K v69 h68) h68 fun v70 h71 =>
  gw v67 true (fun K => rd h71 (.load1 v70) fun v72 => K v72 h71) h71 fun v73 h74 =>
  gw v67 true (fun K => rd h74 (.fieldAddr 3 v2) fun v75 => K v75 h74) h74 fun v76 h77 =>
  gw v67 true (fun K => rd h77 (.load1 v76) fun v78 => K v78 h77) h77 fun v79 h80 =>
  gw v67 true (fun K => cl n_admit_within [v73, (.int .i64 1), v79] h80 fun v81 h82 => K v81 h82) h80 fun v83 h84 =>
  rd h84 (.pick v67 v83 (.bool false)) fun v85 =>
  K v85 h84
theorem admit_mayTask_g4_mono {v67 : AVal} {h68 : Heap} {v2 : AVal} {K L : AVal → Heap → Prop} (hk : ∀ v h, K v h → L v h) (w : admit_mayTask_g4 v67 h68 v2 K) : admit_mayTask_g4 v67 h68 v2 L := (gw_rd_mono fun _ _ => (gw_rd_mono fun _ _ => (gw_rd_mono fun _ _ => (gw_rd_mono fun _ _ => (gw_cl_mono fun _ _ => (rd_mono fun _ => hk _ _)))))) w
@[congr] theorem admit_mayTask_g4_congr {v67 v67' : AVal} {h68 h68' : Heap} {v2 v2' : AVal} {K : AVal → Heap → Prop} (e0 : v67 = v67') (e1 : h68 = h68') (e2 : v2 = v2') {u : Unit} (_t : tokA = u) : admit_mayTask_g4 v67 h68 v2 K = admit_mayTask_g4 v67' h68' v2' K := by rw [e0, e1, e2]

def admit_mayTask_g5 (v91 : AVal) (h87 : Heap) (v2 : AVal) (v0 : AVal) (K : AVal → Heap → Prop) : Prop :=
  gw v91 true (fun K => rd h87 (.fieldAddr 6 v2) fun v92 => K v92 h87) h87 fun v93 h94 =>
  gw v91 true (fun K => rd h94 (.load1 v93) fun v95 => K v95 h94) h94 fun v96 h97 =>
  gw v91 true (fun K => rd h97 (.mkFunc n_admit_mayTask_1 [] [v0]) fun v98 => K v98 h97) h97 fun v99 h100 =>
  gw v91 true (fun K => cl n_slices_ContainsFunc_slint_int_ [v96, v99] h100 fun v101 h102 => K v101 h102) h100 fun v103 h104 =>
  gw v91 true (fun K => rd h104 (.un .not v103) fun v105 => K v105 h104) h104 fun v106 h107 =>
  rd h107 (.pick v91 v106 (.bool false)) fun v108 =>
  K v108 h107
theorem admit_mayTask_g5_mono {v91 : AVal} {h87 : Heap} {v2 : AVal} {v0 : AVal} {K L : AVal → Heap → Prop} (hk : ∀ v h, K v h → L v h) (w : admit_mayTask_g5 v91 h87 v2 v0 K) : admit_mayTask_g5 v91 h87 v2 v0 L := (gw_rd_mono fun _ _ => (gw_rd_mono fun _ _ => (gw_rd_mono fun _ _ => (gw_cl_mono fun _ _ => (gw_rd_mono fun _ _ => (rd_mono fun _ => hk _ _)))))) w
@[congr] theorem admit_mayTask_g5_congr {v91 v91' : AVal} {h87 h87' : Heap} {v2 v2' : AVal} {v0 v0' : AVal} {K : AVal → Heap → Prop} (e0 : v91 = v91') (e1 : h87 = h87') (e2 : v2 = v2') (e3 : v0 = v0') {u : Unit} (_t : tokA = u) : admit_mayTask_g5 v91 h87 v2 v0 K = admit_mayTask_g5 v91' h87' v2' v0' K := by rw [e0, e1, e2, e3]

def admit_mayTask_g6 (v44 : AVal) (v86 : AVal) (h110 : Heap) (K : AVal → Heap → Prop) : Prop :=
  gw v44 true (fun K => K v86 h110) h110 fun v111 h112 =>
  rd h112 (.pick v44 v111 (.bool false)) fun v113 =>
  K v113 h112
theorem admit_mayTask_g6_mono {v44 : AVal} {v86 : AVal} {h110 : Heap} {K L : AVal → Heap → Prop} (hk : ∀ v h, K v h → L v h) (w : admit_mayTask_g6 v44 v86 h110 K) : admit_mayTask_g6 v44 v86 h110 L := (gw_mv_mono fun _ _ => (rd_mono fun _ => hk _ _)) w
@[congr] theorem admit_mayTask_g6_congr {v44 v44' : AVal} {v86 v86' : AVal} {h110 h110' : Heap} {K : AVal → Heap → Prop} (e0 : v44 = v44') (e1 : v86 = v86') (e2 : h110 = h110') {u : Unit} (_t : tokA = u) : admit_mayTask_g6 v44 v86 h110 K = admit_mayTask_g6 v44' v86' h110' K := by rw [e0, e1, e2]

def admit_mayTask_g7 (v114 : AVal) (v109 : AVal) (h115 : Heap) (K : AVal → Heap → Prop) : Prop :=
  gw v114 true (fun K => K v109 h115) h115 fun v116 h117 =>
  rd h117 (.pick v114 v116 (.bool false)) fun v118 =>
  K v118 h117
theorem admit_mayTask_g7_mono {v114 : AVal} {v109 : AVal} {h115 : Heap} {K L : AVal → Heap → Prop} (hk : ∀ v h, K v h → L v h) (w : admit_mayTask_g7 v114 v109 h115 K) : admit_mayTask_g7 v114 v109 h115 L := (gw_mv_mono fun _ _ => (rd_mono fun _ => hk _ _)) w
@[congr] theorem admit_mayTask_g7_congr {v114 v114' : AVal} {v109 v109' : AVal} {h115 h115' : Heap} {K : AVal → Heap → Prop} (e0 : v114 = v114') (e1 : v109 = v109') (e2 : h115 = h115') {u : Unit} (_t : tokA = u) : admit_mayTask_g7 v114 v109 h115 K = admit_mayTask_g7 v114' v109' h115' K := by rw [e0, e1, e2]

def admit_mayTask_g8 (v119 : AVal) (h120 : Heap) (v2 : AVal) (v0 : AVal) (K : AVal → Heap → Prop) : Prop :=
  gw v119 true (fun K => rd h120 (.fieldAddr 5 v2) fun v121 => K v121 h120) h120 fun v122 h123 =>
  gw v119 true (fun K => rd h123 (.load1 v122) fun v124 => K v124 h123) h123 fun v125 h126 =>
  gw v119 true (fun K => rd h126 (.fieldAddr 3 v0) fun v127 => K v127 h126) h126 fun v128 h129 =>
  gw v119 true (fun K => rd h129 (.load1 v128) fun v130 => K v130 h129) h129 fun v131 h132 =>
  gw v119 true (fun K => rd h132 (.len .slice v131) fun v133 => K v133 h132) h132 fun v134 h135 =>
  gw v119 true (fun K => rd h135 (.bin .sub none v134 (.int .i64 1)) fun v136 => K v136 h135) h135 fun v137 h138 =>
  gw v119 true (fun K => cl n_admit_within [v125, (.int .i64 (-1)), v137] h138 fun v139 h140 => K v139 h140) h138 fun v141 h142 =>
  rd h142 (.pick v119 v141 (.bool false)) fun v143 =>
  K v143 h142
theorem admit_mayTask_g8_mono {v119 : AVal} {h120 : Heap} {v2 : AVal} {v0 : AVal} {K L : AVal → Heap → Prop} (hk : ∀ v h, K v h → L v h) (w : admit_mayTask_g8 v119 h120 v2 v0 K) : admit_mayTask_g8 v119 h120 v2 v0 L := (gw_rd_mono fun _ _ => (gw_rd_mono fun _ _ => (gw_rd_mono fun _ _ => (gw_rd_mono fun _ _ => (gw_rd_mono fun _ _ => (gw_rd_mono fun _ _ => (gw_cl_mono fun _ _ => (rd_mono fun _ => hk _ _)))))))) w
@[congr] theorem admit_mayTask_g8_congr {v119 v119' : AVal} {h120 h120' : Heap} {v2 v2' : AVal} {v0 v0' : AVal} {K : AVal → Heap → Prop} (e0 : v119 = v119') (e1 : h120 = h120') (e2 : v2 = v2') (e3 : v0 = v0') {u : Unit} (_t : tokA = u) : admit_mayTask_g8 v119 h120 v2 v0 K = admit_mayTask_g8 v119' h120' v2' v0' K := by rw [e0, e1, e2, e3]

def admit_mayTask_g9 (v144 : AVal) (h145 : Heap) (v2 : AVal) (K : AVal → Heap → Prop) : Prop :=
  gw v144 true (fun K => rd h145 (.fieldAddr 7 v2) fun v146 => K v146 h145) h145 fun v147 h148 =>
  gw v144 true (fun K => rd h148 (.load1 v147) fun v149 => K v149 h148) h148 fun v150 h151 =>
  gw v144 true (fun K => rd h151 (.len .slice v150) fun v152 => K v152 h151) h151 fun v153 h154 =>
  gw v144 true (fun K => rd h154 (.bin .leq none v153 (.int .i64 40)) fun v155 => K v155 h154) h154 fun v156 h157 =>
  rd h157 (.pick v144 v156 (.bool false)) fun v158 =>
  K v158 h157
theorem admit_mayTask_g9_mono {v144 : AVal} {h145 : Heap} {v2 : AVal} {K L : AVal → Heap → Prop} (hk : ∀ v h, K v h → L v h) (w : admit_mayTask_g9 v144 h145 v2 K) : admit_mayTask_g9 v144 h145 v2 L := (gw_rd_mono fun _ _ => (gw_rd_mono fun _ _ => (gw_rd_mono fun _ _ => (gw_rd_mono fun _ _ => (rd_mono fun _ => hk _ _))))) w
@[congr] theorem admit_mayTask_g9_congr {v144 v144' : AVal} {h145 h145' : Heap} {v2 v2' : AVal} {K : AVal → Heap → Prop} (e0 : v144 = v144') (e1 : h145 = h145') (e2 : v2 = v2') {u : Unit} (_t : tokA = u) : admit_mayTask_g9 v144 h145 v2 K = admit_mayTask_g9 v144' h145' v2' K := by rw [e0, e1, e2]

/-- coxswain/admit.mayTask -/
def admit_mayTask (x0 x1 : AVal) (h : Heap) (Q : AVal → Heap → Prop) : Prop :=
  al h (.box x0) fun v0 h1 =>
  al h1 (.box x1) fun v2 h3 =>
  rd h3 (.fieldAddr 0 v2) fun v4 =>
  rd h3 (.load1 v4) fun v5 =>
  rd h3 (.bin .eql (some (.leaf .int)) v5 (.int .i64 2)) fun v6 =>
  admit_mayTask_g1 v6 h3 v2 fun v18 h19 =>
  admit_mayTask_g2 v18 h19 v2 fun v44 h45 =>
  rd h45 (.fieldAddr 2 v2) fun v46 =>
  rd h45 (.load1 v46) fun v47 =>
  cl n_admit_within [v47, (.int .i64 1), (.int .i64 1000000)] h45 fun v48 h49 =>
  admit_mayTask_g3 v48 h49 v2 fun v67 h68 =>
  admit_mayTask_g4 v67 h68 v2 fun v86 h87 =>
  rd h87 (.fieldAddr 6 v2) fun v88 =>
  rd h87 (.load1 v88) fun v89 =>
  rd h87 (.len .slice v89) fun v90 =>
  rd h87 (.bin .leq none v90 (.int .i64 6)) fun v91 =>
  admit_mayTask_g5 v91 h87 v2 v0 fun v109 h110 =>
  admit_mayTask_g6 v44 v86 h110 fun v114 h115 =>
  admit_mayTask_g7 v114 v109 h115 fun v119 h120 =>
  admit_mayTask_g8 v119 h120 v2 v0 fun v144 h145 =>
  admit_mayTask_g9 v144 h145 v2 fun v159 h160 =>
  Q v159 h160
theorem admit_mayTask_wp {x0 x1 : AVal} {h : Heap} {Q : AVal → Heap → Prop} (H : admit_mayTask x0 x1 h Q) : cl n_admit_mayTask [x0, x1] h Q :=
  wcl (vs := []) (fn := compFunc tb21 Tryz.f68) (by kernel_rfl) (by kernel_rfl) (by kernel_rfl : admit_mayTask x0 x1 h Q = wpG cl [] (compFunc tb21 Tryz.f68) [x0, x1] h Q) H
/-- coxswain/admit.mayTask$1 -/
def admit_mayTask_1 (x0 x1 : AVal) (h : Heap) (Q : AVal → Heap → Prop) : Prop :=
  rd h (.fieldAddr 2 x1) fun v0 =>
  rd h (.load1 v0) fun v1 =>
  rd h (.len .slice v1) fun v2 =>
  rd h (.bin .sub none v2 (.int .i64 1)) fun v3 =>
  cl n_admit_within [x0, (.int .i64 0), v3] h fun v4 h5 =>
  rd h5 (.un .not v4) fun v6 =>
  Q v6 h5
theorem admit_mayTask_1_wp {x0 x1 : AVal} {h : Heap} {Q : AVal → Heap → Prop} (H : admit_mayTask_1 x0 x1 h Q) : cl n_admit_mayTask_1 [x0, x1] h Q :=
  wcl (vs := []) (fn := compFunc tb21 Tryz.f116) (by kernel_rfl) (by kernel_rfl) (by kernel_rfl : admit_mayTask_1 x0 x1 h Q = wpG cl [] (compFunc tb21 Tryz.f116) [x0, x1] h Q) H
def admit_May_g1 (v5 : AVal) (h1 : Heap) (v0 : AVal) (K : AVal → Heap → Prop) : Prop :=
  gw v5 false (fun K => rd h1 (.fieldAddr 1 v0) fun v6 => K v6 h1) h1 fun v7 h8 =>
  gw v5 false (fun K => rd h8 (.load1 v7) fun v9 => K v9 h8) h8 fun v10 h11 =>
  gw v5 false (fun K => rd h11 (.len .slice v10) fun v12 => K v12 h11) h11 fun v13 h14 =>
  gw v5 false (fun K => rd h14 (.bin .gtr none v13 (.int .i64 6)) fun v15 => K v15 h14) h14 fun v16 h17 =>
  rd h17 (.pick v5 (.bool true) v16) fun v18 =>
  K v18 h17
theorem admit_May_g1_mono {v5 : AVal} {h1 : Heap} {v0 : AVal} {K L : AVal → Heap → Prop} (hk : ∀ v h, K v h → L v h) (w : admit_May_g1 v5 h1 v0 K) : admit_May_g1 v5 h1 v0 L := (gw_rd_mono fun _ _ => (gw_rd_mono fun _ _ => (gw_rd_mono fun _ _ => (gw_rd_mono fun _ _ => (rd_mono fun _ => hk _ _))))) w
@[congr] theorem admit_May_g1_congr {v5 v5' : AVal} {h1 h1' : Heap} {v0 v0' : AVal} {K : AVal → Heap → Prop} (e0 : v5 = v5') (e1 : h1 = h1') (e2 : v0 = v0') {u : Unit} (_t : tokA = u) : admit_May_g1 v5 h1 v0 K = admit_May_g1 v5' h1' v0' K := by rw [e0, e1, e2]

def admit_May_g2 (v19 : AVal) (h20 : Heap) (v0 : AVal) (K : AVal → Heap → Prop) : Prop :=
  gw v19 false (fun K => rd h20 (.fieldAddr 3 v0) fun v21 => K v21 h20) h20 fun v22 h23 =>
  gw v19 false (fun K => rd h23 (.load1 v22) fun v24 => K v24 h23) h23 fun v25 h26 =>
  gw v19 false (fun K => rd h26 (.len .slice v25) fun v27 => K v27 h26) h26 fun v28 h29 =>
  gw v19 false (fun K => rd h29 (.bin .gtr none v28 (.int .i64 4)) fun v30 => K v30 h29) h29 fun v31 h32 =>
  rd h32 (.pick v19 (.bool true) v31) fun v33 =>
  K v33 h32
theorem admit_May_g2_mono {v19 : AVal} {h20 : Heap} {v0 : AVal} {K L : AVal → Heap → Prop} (hk : ∀ v h, K v h → L v h) (w : admit_May_g2 v19 h20 v0 K) : admit_May_g2 v19 h20 v0 L := (gw_rd_mono fun _ _ => (gw_rd_mono fun _ _ => (gw_rd_mono fun _ _ => (gw_rd_mono fun _ _ => (rd_mono fun _ => hk _ _))))) w
@[congr] theorem admit_May_g2_congr {v19 v19' : AVal} {h20 h20' : Heap} {v0 v0' : AVal} {K : AVal → Heap → Prop} (e0 : v19 = v19') (e1 : h20 = h20') (e2 : v0 = v0') {u : Unit} (_t : tokA = u) : admit_May_g2 v19 h20 v0 K = admit_May_g2 v19' h20' v0' K := by rw [e0, e1, e2]

def admit_May_g3 (v34 : AVal) (h35 : Heap) (v0 : AVal) (K : AVal → Heap → Prop) : Prop :=
  gw v34 false (fun K => rd h35 (.fieldAddr 4 v0) fun v36 => K v36 h35) h35 fun v37 h38 =>
  gw v34 false (fun K => rd h38 (.load1 v37) fun v39 => K v39 h38) h38 fun v40 h41 =>
  gw v34 false (fun K => cl n_admit_within [v40, (.int .i64 8), (.int .i64 64)] h41 fun v42 h43 => K v42 h43) h41 fun v44 h45 =>
  gw v34 false (fun K => rd h45 (.un .not v44) fun v46 => K v46 h45) h45 fun v47 h48 =>
  rd h48 (.pick v34 (.bool true) v47) fun v49 =>
  K v49 h48
theorem admit_May_g3_mono {v34 : AVal} {h35 : Heap} {v0 : AVal} {K L : AVal → Heap → Prop} (hk : ∀ v h, K v h → L v h) (w : admit_May_g3 v34 h35 v0 K) : admit_May_g3 v34 h35 v0 L := (gw_rd_mono fun _ _ => (gw_rd_mono fun _ _ => (gw_cl_mono fun _ _ => (gw_rd_mono fun _ _ => (rd_mono fun _ => hk _ _))))) w
@[congr] theorem admit_May_g3_congr {v34 v34' : AVal} {h35 h35' : Heap} {v0 v0' : AVal} {K : AVal → Heap → Prop} (e0 : v34 = v34') (e1 : h35 = h35') (e2 : v0 = v0') {u : Unit} (_t : tokA = u) : admit_May_g3 v34 h35 v0 K = admit_May_g3 v34' h35' v0' K := by rw [e0, e1, e2]

def admit_May_g4 (v50 : AVal) (h51 : Heap) (v0 : AVal) (K : AVal → Heap → Prop) : Prop :=
  gw v50 false (fun K => rd h51 (.fieldAddr 5 v0) fun v52 => K v52 h51) h51 fun v53 h54 =>
  gw v50 false (fun K => rd h54 (.load1 v53) fun v55 => K v55 h54) h54 fun v56 h57 =>
  gw v50 false (fun K => cl n_admit_within [v56, (.int .i64 1), (.int .i64 1099511627776)] h57 fun v58 h59 => K v58 h59) h57 fun v60 h61 =>
  gw v50 false (fun K => rd h61 (.un .not v60) fun v62 => K v62 h61) h61 fun v63 h64 =>
  rd h64 (.pick v50 (.bool true) v63) fun v65 =>
  K v65 h64
theorem admit_May_g4_mono {v50 : AVal} {h51 : Heap} {v0 : AVal} {K L : AVal → Heap → Prop} (hk : ∀ v h, K v h → L v h) (w : admit_May_g4 v50 h51 v0 K) : admit_May_g4 v50 h51 v0 L := (gw_rd_mono fun _ _ => (gw_rd_mono fun _ _ => (gw_cl_mono fun _ _ => (gw_rd_mono fun _ _ => (rd_mono fun _ => hk _ _))))) w
@[congr] theorem admit_May_g4_congr {v50 v50' : AVal} {h51 h51' : Heap} {v0 v0' : AVal} {K : AVal → Heap → Prop} (e0 : v50 = v50') (e1 : h51 = h51') (e2 : v0 = v0') {u : Unit} (_t : tokA = u) : admit_May_g4 v50 h51 v0 K = admit_May_g4 v50' h51' v0' K := by rw [e0, e1, e2]

def admit_May_g5 (v95 : AVal) (h94 : Heap) (v87 : AVal) (v75 : AVal) (K : AVal → Heap → Prop) : Prop :=
  gw v95 false (fun K => rd h94 (.fieldAddr 5 v87) fun v96 => K v96 h94) h94 fun v97 h98 =>
  gw v95 false (fun K => rd h98 (.load1 v97) fun v99 => K v99 h98) h98 fun v100 h101 =>
  gw v95 false (fun K => rd h101 (.bin .geq none v100 (.int .i64 0)) fun v102 => K v102 h101) h101 fun v103 h104 =>
  gw v95 false (fun K => K v103 h104) h104 fun v105 h106 =>
  gw v105 true (fun K => K v75 h106) h106 fun v107 h108 =>
  gw v105 true (fun K => rd h108 (.fieldAddr 5 v87) fun v109 => K v109 h108) h108 fun v110 h111 =>
  gw v105 true (fun K => rd h111 (.load1 v110) fun v112 => K v112 h111) h111 fun v113 h114 =>
  gw v105 true (fun K => rd h114 (.lookup .int (.int .i64 0) v107 v113 false) fun v115 => K v115 h114) h114 fun v116 h117 =>
  gw v105 true (fun K => rd h117 (.bin .gtr none v116 (.int .i64 0)) fun v118 => K v118 h117) h117 fun v119 h120 =>
  gw v95 false (fun K => rd h120 (.pick v105 v119 (.bool false)) fun v121 => K v121 h120) h120 fun v122 h123 =>
  rd h123 (.pick v95 (.bool true) v122) fun v124 =>
  K v124 h123
theorem admit_May_g5_mono {v95 : AVal} {h94 : Heap} {v87 : AVal} {v75 : AVal} {K L : AVal → Heap → Prop} (hk : ∀ v h, K v h → L v h) (w : admit_May_g5 v95 h94 v87 v75 K) : admit_May_g5 v95 h94 v87 v75 L := (gw_rd_mono fun _ _ => (gw_rd_mono fun _ _ => (gw_rd_mono fun _ _ => (gw_mv_mono fun _ _ => (gw_mv_mono fun _ _ => (gw_rd_mono fun _ _ => (gw_rd_mono fun _ _ => (gw_rd_mono fun _ _ => (gw_rd_mono fun _ _ => (gw_rd_mono fun _ _ => (rd_mono fun _ => hk _ _))))))))))) w
@[congr] theorem admit_May_g5_congr {v95 v95' : AVal} {h94 h94' : Heap} {v87 v87' : AVal} {v75 v75' : AVal} {K : AVal → Heap → Prop} (e0 : v95 = v95') (e1 : h94 = h94') (e2 : v87 = v87') (e3 : v75 = v75') {u : Unit} (_t : tokA = u) : admit_May_g5 v95 h94 v87 v75 K = admit_May_g5 v95' h94' v87' v75' K := by rw [e0, e1, e2, e3]

def admit_May_g6 (v152 : AVal) (h151 : Heap) (v144 : AVal) (K : AVal → Heap → Prop) : Prop :=
  gw v152 false (fun K => rd h151 (.fieldAddr 1 v144) fun v153 => K v153 h151) h151 fun v154 h155 =>
  gw v152 false (fun K => rd h155 (.load1 v154) fun v156 => K v156 h155) h155 fun v157 h158 =>
  gw v152 false (fun K => rd h158 (.len .slice v157) fun v159 => K v159 h158) h158 fun v160 h161 =>
  gw v152 false (fun K => rd h161 (.bin .gtr none v160 (.int .i64 40)) fun v162 => K v162 h161) h161 fun v163 h164 =>
  rd h164 (.pick v152 (.bool true) v163) fun v165 =>
  K v165 h164
theorem admit_May_g6_mono {v152 : AVal} {h151 : Heap} {v144 : AVal} {K L : AVal → Heap → Prop} (hk : ∀ v h, K v h → L v h) (w : admit_May_g6 v152 h151 v144 K) : admit_May_g6 v152 h151 v144 L := (gw_rd_mono fun _ _ => (gw_rd_mono fun _ _ => (gw_rd_mono fun _ _ => (gw_rd_mono fun _ _ => (rd_mono fun _ => hk _ _))))) w
@[congr] theorem admit_May_g6_congr {v152 v152' : AVal} {h151 h151' : Heap} {v144 v144' : AVal} {K : AVal → Heap → Prop} (e0 : v152 = v152') (e1 : h151 = h151') (e2 : v144 = v144') {u : Unit} (_t : tokA = u) : admit_May_g6 v152 h151 v144 K = admit_May_g6 v152' h151' v144' K := by rw [e0, e1, e2]

/-- coxswain/admit.May -/
def admit_May (x0 : AVal) (h : Heap) (Q : AVal → Heap → Prop) : Prop :=
  al h (.box x0) fun v0 h1 =>
  rd h1 (.fieldAddr 0 v0) fun v2 =>
  rd h1 (.load1 v2) fun v3 =>
  rd h1 (.len .slice v3) fun v4 =>
  rd h1 (.bin .gtr none v4 (.int .i64 8)) fun v5 =>
  admit_May_g1 v5 h1 v0 fun v19 h20 =>
  admit_May_g2 v19 h20 v0 fun v34 h35 =>
  admit_May_g3 v34 h35 v0 fun v50 h51 =>
  admit_May_g4 v50 h51 v0 fun v66 h67 =>
  br v66 (
  Q (.bool false) h67) (
  rd h67 (.fieldAddr 2 v0) fun v68 =>
  rd h67 (.load1 v68) fun v69 =>
  cl n_rank_New [v69] h67 fun v70 h71 =>
  rd h71 (.extract v70 0) fun v72 =>
  rd h71 (.extract v70 1) fun v73 =>
  rd h71 (.bin .neq (some (.leaf .int)) v73 (.int .i64 0)) fun v74 =>
  br v74 (
  Q (.bool false) h71) (
  al h71 AOp.mkMap fun v75 h76 =>
  rd h76 (.fieldAddr 0 v0) fun v77 =>
  rd h76 (.load1 v77) fun v78 =>
  rd h76 (.len .slice v78) fun v79 =>
  lp [(.int .i64 0)] h76 fun d80 z81 h82 again83 =>
  rd h82 (.bin .lss none (d80.getD 0 undefA) v79) fun v84 =>
  br v84 (
  rd h82 (.idxAddrS 8 v78 (d80.getD 0 undefA)) fun v85 =>
  rd h82 (.loadN 8 v85) fun v86 =>
  al h82 (.alloc [(.int .i64 0), (.int .i64 0), (.int .i64 0), (.int .i64 0), (.int .i64 0), (.int .i64 0), .nilslice, .nilslice]) fun v87 h88 =>
  wr h88 (.storeN 8 v87 v86) fun v89 h90 =>
  rd h90 (.loadN 6 v0) fun v91 =>
  rd h90 (.loadN 8 v87) fun v92 =>
  cl n_admit_mayTask [v91, v92] h90 fun v93 h94 =>
  rd h94 (.un .not v93) fun v95 =>
  admit_May_g5 v95 h94 v87 v75 fun v125 h126 =>
  br v125 (
  Q (.bool false) h126) (
  rd h126 (.fieldAddr 5 v87) fun v127 =>
  rd h126 (.load1 v127) fun v128 =>
  rd h126 (.lookup .int (.int .i64 0) v75 v128 false) fun v129 =>
  rd h126 (.bin .add none v129 (.int .i64 1)) fun v130 =>
  wr h126 (.mapUpdate .int v75 v128 v130) fun v131 h132 =>
  rd h132 (.bin .add none (d80.getD 0 undefA) (.int .i64 1)) fun v133 =>
  again83 [v133] h132)) (
  rd h82 (.fieldAddr 1 v0) fun v134 =>
  rd h82 (.load1 v134) fun v135 =>
  rd h82 (.len .slice v135) fun v136 =>
  lp [(.int .i64 0)] h82 fun d137 z138 h139 again140 =>
  rd h139 (.bin .lss none (d137.getD 0 undefA) v136) fun v141 =>
  br v141 (
  rd h139 (.idxAddrS 2 v135 (d137.getD 0 undefA)) fun v142 =>
  rd h139 (.loadN 2 v142) fun v143 =>
  al h139 (.alloc [(.int .i64 0), .nilslice]) fun v144 h145 =>
  wr h145 (.storeN 2 v144 v143) fun v146 h147 =>
  rd h147 (.fieldAddr 0 v144) fun v148 =>
  rd h147 (.load1 v148) fun v149 =>
  cl n_admit_within [v149, (.int .i64 0), (.int .i64 15)] h147 fun v150 h151 =>
  rd h151 (.un .not v150) fun v152 =>
  admit_May_g6 v152 h151 v144 fun v166 h167 =>
  br v166 (
  Q (.bool false) h167) (
  rd h167 (.bin .add none (d137.getD 0 undefA) (.int .i64 1)) fun v168 =>
  again140 [v168] h167)) (
  rd h139 (.fieldAddr 3 v0) fun v169 =>
  rd h139 (.load1 v169) fun v170 =>
  cl n_slices_ContainsFunc_slint_int_ [v170, (.func n_admit_May_1 [] [])] h139 fun v171 h172 =>
  rd h172 (.un .not v171) fun v173 =>
  Q v173 h172))))
theorem admit_May_wp {x0 : AVal} {h : Heap} {Q : AVal → Heap → Prop} (H : admit_May x0 h Q) : cl n_admit_May [x0] h Q :=
  wcl (vs := [50, 79]) (fn := compFunc tb21 Tryz.f27) (by kernel_rfl) (by kernel_rfl) (by kernel_rfl : admit_May x0 h Q = wpG cl [50, 79] (compFunc tb21 Tryz.f27) [x0] h Q) H
/-- coxswain/admit.May$1 -/
def admit_May_1 (x0 : AVal) (h : Heap) (Q : AVal → Heap → Prop) : Prop :=
  cl n_admit_within [x0, (.int .i64 1), (.int .i64 1000)] h fun v0 h1 =>
  rd h1 (.un .not v0) fun v2 =>
  Q v2 h1
theorem admit_May_1_wp {x0 : AVal} {h : Heap} {Q : AVal → Heap → Prop} (H : admit_May_1 x0 h Q) : cl n_admit_May_1 [x0] h Q :=
  wcl (vs := []) (fn := compFunc tb21 Tryz.f70) (by kernel_rfl) (by kernel_rfl) (by kernel_rfl : admit_May_1 x0 h Q = wpG cl [] (compFunc tb21 Tryz.f70) [x0] h Q) H
/-- slices.ContainsFunc[[]int,int] -/
def slices_ContainsFunc_slint_int_ (x0 x1 : AVal) (h : Heap) (Q : AVal → Heap → Prop) : Prop :=
  cl n_slices_IndexFunc_slint_int_ [x0, x1] h fun v0 h1 =>
  rd h1 (.bin .geq none v0 (.int .i64 0)) fun v2 =>
  Q v2 h1
theorem slices_ContainsFunc_slint_int__wp {x0 x1 : AVal} {h : Heap} {Q : AVal → Heap → Prop} (H : slices_ContainsFunc_slint_int_ x0 x1 h Q) : cl n_slices_ContainsFunc_slint_int_ [x0, x1] h Q :=
  wcl (vs := []) (fn := compFunc tb21 Tryz.f69) (by kernel_rfl) (by kernel_rfl) (by kernel_rfl : slices_ContainsFunc_slint_int_ x0 x1 h Q = wpG cl [] (compFunc tb21 Tryz.f69) [x0, x1] h Q) H
/-- slices.IndexFunc[[]int,int] -/
def slices_IndexFunc_slint_int_ (x0 x1 : AVal) (h : Heap) (Q : AVal → Heap → Prop) : Prop :=
  rd h (.len .slice x0) fun v0 =>
  lp [(.int .i64 0)] h fun d1 z2 h3 again4 =>
  rd h3 (.bin .lss none (d1.getD 0 undefA) v0) fun v5 =>
  br v5 (
  rd h3 (.idxAddrS 1 x0 (d1.getD 0 undefA)) fun v6 =>
  rd h3 (.load1 v6) fun v7 =>
  cv cl x1 [v7] h3 fun v8 h9 =>
  br v8 (
  Q (d1.getD 0 undefA) h9) (
  rd h9 (.bin .add none (d1.getD 0 undefA) (.int .i64 1)) fun v10 =>
  again4 [v10] h9)) (
  Q (.int .i64 (-1)) h3)
theorem slices_IndexFunc_slint_int__wp {x0 x1 : AVal} {h : Heap} {Q : AVal → Heap → Prop} (H : slices_IndexFunc_slint_int_ x0 x1 h Q) : cl n_slices_IndexFunc_slint_int_ [x0, x1] h Q :=
  wcl (vs := [8]) (fn := compFunc tb21 Tryz.f117) (by kernel_rfl) (by kernel_rfl) (by kernel_rfl : slices_IndexFunc_slint_int_ x0 x1 h Q = wpG cl [8] (compFunc tb21 Tryz.f117) [x0, x1] h Q) H
def rank_New_g1 (v1 : AVal) (x0 : AVal) (h : Heap) (K : AVal → Heap → Prop) : Prop :=
  gw v1 false (fun K => K x0 h) h fun v2 h3 =>
  gw v1 false (fun K => cl n_slices_ContainsFunc_slapi_Mutex_api_Mutex_ [v2, (.func n_rank_New_1 [] [])] h3 fun v4 h5 => K v4 h5) h3 fun v6 h7 =>
  rd h7 (.pick v1 (.bool true) v6) fun v8 =>
  K v8 h7
theorem rank_New_g1_mono {v1 : AVal} {x0 : AVal} {h : Heap} {K L : AVal → Heap → Prop} (hk : ∀ v h, K v h → L v h) (w : rank_New_g1 v1 x0 h K) : rank_New_g1 v1 x0 h L := (gw_mv_mono fun _ _ => (gw_cl_mono fun _ _ => (rd_mono fun _ => hk _ _))) w
@[congr] theorem rank_New_g1_congr {v1 v1' : AVal} {x0 x0' : AVal} {h h' : Heap} {K : AVal → Heap → Prop} (e0 : v1 = v1') (e1 : x0 = x0') (e2 : h = h') {u : Unit} (_t : tokA = u) : rank_New_g1 v1 x0 h K = rank_New_g1 v1' x0' h' K := by rw [e0, e1, e2]

/-- coxswain/rank.New -/
def rank_New (x0 : AVal) (h : Heap) (Q : AVal → Heap → Prop) : Prop :=
  rd h (.len .slice x0) fun v0 =>
  rd h (.bin .gtr none v0 (.int .i64 6)) fun v1 =>
  rank_New_g1 v1 x0 h fun v9 h10 =>
  br v9 (
  Q (.tuple [.nilptr, (.int .i64 2)]) h10) (
  cl n_slices_Clone_slapi_Mutex_api_Mutex_ [x0] h10 fun v11 h12 =>
  rd h12 (.build [.nilslice] [(0, 1, v11)]) fun v13 =>
  al h12 (.box v13) fun v14 h15 =>
  Q (.tuple [v14, (.int .i64 0)]) h15)
theorem rank_New_wp {x0 : AVal} {h : Heap} {Q : AVal → Heap → Prop} (H : rank_New x0 h Q) : cl n_rank_New [x0] h Q :=
  wcl (vs := []) (fn := compFunc tb21 Tryz.f33) (by kernel_rfl) (by kernel_rfl) (by kernel_rfl : rank_New x0 h Q = wpG cl [] (compFunc tb21 Tryz.f33) [x0] h Q) H
/-- coxswain/rank.New$1 -/
def rank_New_1 (x0 : AVal) (h : Heap) (Q : AVal → Heap → Prop) : Prop :=
  al h (.box x0) fun v0 h1 =>
  rd h1 (.loadN 2 v0) fun v2 =>
  cl n_rank_may [v2] h1 fun v3 h4 =>
  rd h4 (.un .not v3) fun v5 =>
  Q v5 h4
theorem rank_New_1_wp {x0 : AVal} {h : Heap} {Q : AVal → Heap → Prop} (H : rank_New_1 x0 h Q) : cl n_rank_New_1 [x0] h Q :=
  wcl (vs := []) (fn := compFunc tb21 Tryz.f74) (by kernel_rfl) (by kernel_rfl) (by kernel_rfl : rank_New_1 x0 h Q = wpG cl [] (compFunc tb21 Tryz.f74) [x0] h Q) H
def rank_may_g1 (v4 : AVal) (h1 : Heap) (v0 : AVal) (K : AVal → Heap → Prop) : Prop :=
  gw v4 true (fun K => rd h1 (.fieldAddr 0 v0) fun v5 => K v5 h1) h1 fun v6 h7 =>
  gw v4 true (fun K => rd h7 (.load1 v6) fun v8 => K v8 h7) h7 fun v9 h10 =>
  gw v4 true (fun K => rd h10 (.bin .leq none v9 (.int .i64 100)) fun v11 => K v11 h10) h10 fun v12 h13 =>
  rd h13 (.pick v4 v12 (.bool false)) fun v14 =>
  K v14 h13
theorem rank_may_g1_mono {v4 : AVal} {h1 : Heap} {v0 : AVal} {K L : AVal → Heap → Prop} (hk : ∀ v h, K v h → L v h) (w : rank_may_g1 v4 h1 v0 K) : rank_may_g1 v4 h1 v0 L := (gw_rd_mono fun _ _ => (gw_rd_mono fun _ _ => (gw_rd_mono fun _ _ => (rd_mono fun _ => hk _ _)))) w
@[congr] theorem rank_may_g1_congr {v4 v4' : AVal} {h1 h1' : Heap} {v0 v0' : AVal} {K : AVal → Heap → Prop} (e0 : v4 = v4') (e1 : h1 = h1') (e2 : v0 = v0') {u : Unit} (_t : tokA = u) : rank_may_g1 v4 h1 v0 K = rank_may_g1 v4' h1' v0' K := by rw [e0, e1, e2]

def rank_may_g2 (v15 : AVal) (h16 : Heap) (v0 : AVal) (K : AVal → Heap → Prop) : Prop :=
  gw v15 true (fun K => rd h16 (.fieldAddr 1 v0) fun v17 => K v17 h16) h16 fun v18 h19 =>
  gw v15 true (fun K => rd h19 (.load1 v18) fun v20 => K v20 h19) h19 fun v21 h22 =>
  gw v15 true (fun K => rd h22 (.bin .geq none v21 (.int .i64 1)) fun v23 => K v23 h22) h22 fun v24 h25 =>
  rd h25 (.pick v15 v24 (.bool false)) fun v26 =>
  K v26 h25
theorem rank_may_g2_mono {v15 : AVal} {h16 : Heap} {v0 : AVal} {K L : AVal → Heap → Prop} (hk : ∀ v h, K v h → L v h) (w : rank_may_g2 v15 h16 v0 K) : rank_may_g2 v15 h16 v0 L := (gw_rd_mono fun _ _ => (gw_rd_mono fun _ _ => (gw_rd_mono fun _ _ => (rd_mono fun _ => hk _ _)))) w
@[congr] theorem rank_may_g2_congr {v15 v15' : AVal} {h16 h16' : Heap} {v0 v0' : AVal} {K : AVal → Heap → Prop} (e0 : v15 = v15') (e1 : h16 = h16') (e2 : v0 = v0') {u : Unit} (_t : tokA = u) : rank_may_g2 v15 h16 v0 K = rank_may_g2 v15' h16' v0' K := by rw [e0, e1, e2]

def rank_may_g3 (v27 : AVal) (h28 : Heap) (v0 : AVal) (K : AVal → Heap → Prop) : Prop :=
  gw v27 true (fun K => rd h28 (.fieldAddr 1 v0) fun v29 => K v29 h28) h28 fun v30 h31 =>
  gw v27 true (fun K => rd h31 (.load1 v30) fun v32 => K v32 h31) h31 fun v33 h34 =>
  gw v27 true (fun K => rd h34 (.bin .leq none v33 (.int .i64 1000)) fun v35 => K v35 h34) h34 fun v36 h37 =>
  rd h37 (.pick v27 v36 (.bool false)) fun v38 =>
  K v38 h37
theorem rank_may_g3_mono {v27 : AVal} {h28 : Heap} {v0 : AVal} {K L : AVal → Heap → Prop} (hk : ∀ v h, K v h → L v h) (w : rank_may_g3 v27 h28 v0 K) : rank_may_g3 v27 h28 v0 L := (gw_rd_mono fun _ _ => (gw_rd_mono fun _ _ => (gw_rd_mono fun _ _ => (rd_mono fun _ => hk _ _)))) w
@[congr] theorem rank_may_g3_congr {v27 v27' : AVal} {h28 h28' : Heap} {v0 v0' : AVal} {K : AVal → Heap → Prop} (e0 : v27 = v27') (e1 : h28 = h28') (e2 : v0 = v0') {u : Unit} (_t : tokA = u) : rank_may_g3 v27 h28 v0 K = rank_may_g3 v27' h28' v0' K := by rw [e0, e1, e2]

/-- coxswain/rank.may -/
def rank_may (x0 : AVal) (h : Heap) (Q : AVal → Heap → Prop) : Prop :=
  al h (.box x0) fun v0 h1 =>
  rd h1 (.fieldAddr 0 v0) fun v2 =>
  rd h1 (.load1 v2) fun v3 =>
  rd h1 (.bin .geq none v3 (.int .i64 1)) fun v4 =>
  rank_may_g1 v4 h1 v0 fun v15 h16 =>
  rank_may_g2 v15 h16 v0 fun v27 h28 =>
  rank_may_g3 v27 h28 v0 fun v39 h40 =>
  Q v39 h40
theorem rank_may_wp {x0 : AVal} {h : Heap} {Q : AVal → Heap → Prop} (H : rank_may x0 h Q) : cl n_rank_may [x0] h Q :=
  wcl (vs := []) (fn := compFunc tb21 Tryz.f75) (by kernel_rfl) (by kernel_rfl) (by kernel_rfl : rank_may x0 h Q = wpG cl [] (compFunc tb21 Tryz.f75) [x0] h Q) H
/-- slices.ContainsFunc[[]coxswain/api.Mutex,coxswain/api.Mutex] -/
def slices_ContainsFunc_slapi_Mutex_api_Mutex_ (x0 x1 : AVal) (h : Heap) (Q : AVal → Heap → Prop) : Prop :=
  cl n_slices_IndexFunc_slapi_Mutex_api_Mutex_ [x0, x1] h fun v0 h1 =>
  rd h1 (.bin .geq none v0 (.int .i64 0)) fun v2 =>
  Q v2 h1
theorem slices_ContainsFunc_slapi_Mutex_api_Mutex__wp {x0 x1 : AVal} {h : Heap} {Q : AVal → Heap → Prop} (H : slices_ContainsFunc_slapi_Mutex_api_Mutex_ x0 x1 h Q) : cl n_slices_ContainsFunc_slapi_Mutex_api_Mutex_ [x0, x1] h Q :=
  wcl (vs := []) (fn := compFunc tb21 Tryz.f73) (by kernel_rfl) (by kernel_rfl) (by kernel_rfl : slices_ContainsFunc_slapi_Mutex_api_Mutex_ x0 x1 h Q = wpG cl [] (compFunc tb21 Tryz.f73) [x0, x1] h Q) H
/-- slices.IndexFunc[[]coxswain/api.Mutex,coxswain/api.Mutex] -/
def slices_IndexFunc_slapi_Mutex_api_Mutex_ (x0 x1 : AVal) (h : Heap) (Q : AVal → Heap → Prop) : Prop :=
  rd h (.len .slice x0) fun v0 =>
  lp [(.int .i64 0)] h fun d1 z2 h3 again4 =>
  rd h3 (.bin .lss none (d1.getD 0 undefA) v0) fun v5 =>
  br v5 (
  rd h3 (.idxAddrS 2 x0 (d1.getD 0 undefA)) fun v6 =>
  rd h3 (.loadN 2 v6) fun v7 =>
  cv cl x1 [v7] h3 fun v8 h9 =>
  br v8 (
  Q (d1.getD 0 undefA) h9) (
  rd h9 (.bin .add none (d1.getD 0 undefA) (.int .i64 1)) fun v10 =>
  again4 [v10] h9)) (
  Q (.int .i64 (-1)) h3)
theorem slices_IndexFunc_slapi_Mutex_api_Mutex__wp {x0 x1 : AVal} {h : Heap} {Q : AVal → Heap → Prop} (H : slices_IndexFunc_slapi_Mutex_api_Mutex_ x0 x1 h Q) : cl n_slices_IndexFunc_slapi_Mutex_api_Mutex_ [x0, x1] h Q :=
  wcl (vs := [8]) (fn := compFunc tb21 Tryz.f119) (by kernel_rfl) (by kernel_rfl) (by kernel_rfl : slices_IndexFunc_slapi_Mutex_api_Mutex_ x0 x1 h Q = wpG cl [8] (compFunc tb21 Tryz.f119) [x0, x1] h Q) H
/-- slices.Clone[[]coxswain/api.Mutex,coxswain/api.Mutex] -/
def slices_Clone_slapi_Mutex_api_Mutex_ (x0 : AVal) (h : Heap) (Q : AVal → Heap → Prop) : Prop :=
  rd h (.bin .eql (some .slice) x0 .nilslice) fun v0 =>
  br v0 (
  Q .nilslice h) (
  al h (.buildSlice [(.int .i64 0), (.int .i64 0)] 0 []) fun v1 h2 =>
  wr h2 (.append 2 16 v1 x0) fun v3 h4 =>
  Q v3 h4)
theorem slices_Clone_slapi_Mutex_api_Mutex__wp {x0 : AVal} {h : Heap} {Q : AVal → Heap → Prop} (H : slices_Clone_slapi_Mutex_api_Mutex_ x0 h Q) : cl n_slices_Clone_slapi_Mutex_api_Mutex_ [x0] h Q :=
  wcl (vs := []) (fn := compFunc tb21 Tryz.f76) (by kernel_rfl) (by kernel_rfl) (by kernel_rfl : slices_Clone_slapi_Mutex_api_Mutex_ x0 h Q = wpG cl [] (compFunc tb21 Tryz.f76) [x0] h Q) H
/-- slices.Clone[[]int,int] -/
def slices_Clone_slint_int_ (x0 : AVal) (h : Heap) (Q : AVal → Heap → Prop) : Prop :=
  rd h (.bin .eql (some .slice) x0 .nilslice) fun v0 =>
  br v0 (
  Q .nilslice h) (
  al h (.buildSlice [(.int .i64 0)] 0 []) fun v1 h2 =>
  wr h2 (.append 1 8 v1 x0) fun v3 h4 =>
  Q v3 h4)
theorem slices_Clone_slint_int__wp {x0 : AVal} {h : Heap} {Q : AVal → Heap → Prop} (H : slices_Clone_slint_int_ x0 h Q) : cl n_slices_Clone_slint_int_ [x0] h Q :=
  wcl (vs := []) (fn := compFunc tb21 Tryz.f28) (by kernel_rfl) (by kernel_rfl) (by kernel_rfl : slices_Clone_slint_int_ x0 h Q = wpG cl [] (compFunc tb21 Tryz.f28) [x0] h Q) H

end Go.AM

open Go Go.AM Go.Proofs
namespace Go.AM
set_option maxRecDepth 100000
set_option linter.unusedVariables false
/-- coxswain/num.Clip -/
def num_Clip (x0 : AVal) (h : Heap) (Q : AVal → Heap → Prop) : Prop :=
  rd h (.minmax true x0 [(.int .i64 0)]) fun v0 =>
  rd h (.minmax false v0 [(.int .i64 1099511627776)]) fun v1 =>
  Q v1 h
theorem num_Clip_wp {x0 : AVal} {h : Heap} {Q : AVal → Heap → Prop} (H : num_Clip x0 h Q) : cl n_num_Clip [x0] h Q :=
  wcl (vs := []) (fn := compFunc tb21 Tryz.f105) (by kernel_rfl) (by kernel_rfl) (by kernel_rfl : num_Clip x0 h Q = wpG cl [] (compFunc tb21 Tryz.f105) [x0] h Q) H
/-- coxswain/num.Add -/
def num_Add (x0 : AVal) (h : Heap) (Q : AVal → Heap → Prop) : Prop :=
  rd h (.len .slice x0) fun v0 =>
  lp [(.int .i64 0), (.int .i64 0)] h fun d1 z2 h3 again4 =>
  rd h3 (.bin .lss none (d1.getD 1 undefA) v0) fun v5 =>
  br v5 (
  rd h3 (.idxAddrS 1 x0 (d1.getD 1 undefA)) fun v6 =>
  rd h3 (.load1 v6) fun v7 =>
  cl n_num_Clip [v7] h3 fun v8 h9 =>
  rd h9 (.bin .add none (d1.getD 0 undefA) v8) fun v10 =>
  cl n_num_Clip [v10] h9 fun v11 h12 =>
  rd h12 (.bin .add none (d1.getD 1 undefA) (.int .i64 1)) fun v13 =>
  again4 [v11, v13] h12) (
  Q (d1.getD 0 undefA) h3)
theorem num_Add_wp {x0 : AVal} {h : Heap} {Q : AVal → Heap → Prop} (H : num_Add x0 h Q) : cl n_num_Add [x0] h Q :=
  wcl (vs := [3, 8]) (fn := compFunc tb21 Tryz.f130) (by kernel_rfl) (by kernel_rfl) (by kernel_rfl : num_Add x0 h Q = wpG cl [3, 8] (compFunc tb21 Tryz.f130) [x0] h Q) H
/-- coxswain/task.fresh -/
def task_fresh (x0 x1 x2 : AVal) (h : Heap) (Q : AVal → Heap → Prop) : Prop :=
  al h (.box x1) fun v0 h1 =>
  al h1 (.alloc [(.int .i64 0), (.int .i64 0), (.int .i64 0), (.int .i64 0), (.int .i64 0), (.int .i64 0), (.int .i64 0), (.int .i64 0), (.int .i64 0), (.bool false), (.int .i64 0), (.int .i64 0), (.int .i64 0), (.str []), (.bool false), (.int .i64 0), (.int .i64 0), (.int .i64 0), (.int .i64 0), (.int .i64 0), .nilslice]) fun v2 h3 =>
  rd h3 (.loadN 3 v0) fun v4 =>
  rd h3 (.build [(.int .i64 0), (.int .i64 0), (.int .i64 0), (.int .i64 0), (.int .i64 0), (.int .i64 0), (.int .i64 0), (.int .i64 0), (.int .i64 0), (.bool false), (.int .i64 0), (.int .i64 0), (.int .i64 0), (.str []), (.bool false), (.int .i64 0), (.int .i64 0), (.int .i64 0), (.int .i64 0), (.int .i64 0), .nilslice] [(0, 1, x0), (1, 1, (.int .i64 (-1))), (18, 1, (.int .i64 (-1))), (6, 1, (.int .i64 (-1))), (19, 1, (.int .i64 (-1))), (2, 3, v4), (5, 1, x2)]) fun v5 =>
  wr h3 (.storeN 21 v2 v5) fun v6 h7 =>
  rd h7 (.loadN 21 v2) fun v8 =>
  Q v8 h7
theorem task_fresh_wp {x0 x1 x2 : AVal} {h : Heap} {Q : AVal → Heap → Prop} (H : task_fresh x0 x1 x2 h Q) : cl n_task_fresh [x0, x1, x2] h Q :=
  wcl (vs := []) (fn := compFunc tb21 Tryz.f71) (by kernel_rfl) (by kernel_rfl) (by kernel_rfl : task_fresh x0 x1 x2 h Q = wpG cl [] (compFunc tb21 Tryz.f71) [x0, x1, x2] h Q) H
/-- coxswain/task.New -/
def task_New (x0 x1 : AVal) (h : Heap) (Q : AVal → Heap → Prop) : Prop :=
  al h (.box x1) fun v0 h1 =>
  al h1 (.alloc [(.int .i64 0), (.int .i64 0), (.int .i64 0), (.int .i64 0), (.int .i64 0), (.int .i64 0), (.int .i64 0), (.int .i64 0), (.int .i64 0), (.bool false), (.int .i64 0), (.int .i64 0), (.int .i64 0), (.str []), (.bool false), (.int .i64 0), (.int .i64 0), (.int .i64 0), (.int .i64 0), (.int .i64 0), .nilslice]) fun v2 h3 =>
  rd h3 (.fieldAddr 0 v0) fun v4 =>
  rd h3 (.load1 v4) fun v5 =>
  rd h3 (.fieldAddr 1 v0) fun v6 =>
  rd h3 (.load1 v6) fun v7 =>
  rd h3 (.build [(.int .i64 0), (.int .i64 0), (.int .i64 0)] [(0, 1, v5), (1, 1, v7)]) fun v8 =>
  cl n_task_fresh [x0, v8, (.int .i64 0)] h3 fun v9 h10 =>
  wr h10 (.storeN 21 v2 v9) fun v11 h12 =>
  rd h12 (.loadN 21 v2) fun v13 =>
  Q v13 h12
theorem task_New_wp {x0 x1 : AVal} {h : Heap} {Q : AVal → Heap → Prop} (H : task_New x0 x1 h Q) : cl n_task_New [x0, x1] h Q :=
  wcl (vs := []) (fn := compFunc tb21 Tryz.f30) (by kernel_rfl) (by kernel_rfl) (by kernel_rfl : task_New x0 x1 h Q = wpG cl [] (compFunc tb21 Tryz.f30) [x0, x1] h Q) H
/-- coxswain/task.Best -/
def task_Best (x0 x1 : AVal) (h : Heap) (Q : AVal → Heap → Prop) : Prop :=
  al h (.box x1) fun v0 h1 =>
  al h1 (.alloc [(.int .i64 0), (.int .i64 0), (.int .i64 0), (.int .i64 0), (.int .i64 0), (.int .i64 0), (.int .i64 0), (.int .i64 0), (.int .i64 0), (.bool false), (.int .i64 0), (.int .i64 0), (.int .i64 0), (.str []), (.bool false), (.int .i64 0), (.int .i64 0), (.int .i64 0), (.int .i64 0), (.int .i64 0), .nilslice]) fun v2 h3 =>
  rd h3 (.fieldAddr 0 v0) fun v4 =>
  rd h3 (.load1 v4) fun v5 =>
  rd h3 (.build [(.int .i64 0), (.int .i64 0), (.int .i64 0)] [(0, 1, (.int .i64 0)), (1, 1, v5)]) fun v6 =>
  cl n_task_fresh [x0, v6, (.int .i64 1)] h3 fun v7 h8 =>
  wr h8 (.storeN 21 v2 v7) fun v9 h10 =>
  rd h10 (.loadN 21 v2) fun v11 =>
  Q v11 h10
theorem task_Best_wp {x0 x1 : AVal} {h : Heap} {Q : AVal → Heap → Prop} (H : task_Best x0 x1 h Q) : cl n_task_Best [x0, x1] h Q :=
  wcl (vs := []) (fn := compFunc tb21 Tryz.f32) (by kernel_rfl) (by kernel_rfl) (by kernel_rfl : task_Best x0 x1 h Q = wpG cl [] (compFunc tb21 Tryz.f32) [x0, x1] h Q) H
/-- coxswain/task.May -/
def task_May (x0 x1 x2 : AVal) (h : Heap) (Q : AVal → Heap → Prop) : Prop :=
  al h (.box x0) fun v0 h1 =>
  al h1 (.box x1) fun v2 h3 =>
  rd h3 (.fieldAddr 14 v0) fun v4 =>
  rd h3 (.load1 v4) fun v5 =>
  rd h3 (.un .not v5) fun v6 =>
  gw v6 true (fun K => K x2 h3) h3 fun v7 h8 =>
  gw v6 true (fun K => rd h8 (.bin .geq none v7 (.int .i64 0)) fun v9 => K v9 h8) h8 fun v10 h11 =>
  rd h11 (.pick v6 v10 (.bool false)) fun v12 =>
  gw v12 true (fun K => K x2 h11) h11 fun v13 h14 =>
  gw v12 true (fun K => rd h14 (.bin .leq none v13 (.int .i64 1099511627776)) fun v15 => K v15 h14) h14 fun v16 h17 =>
  rd h17 (.pick v12 v16 (.bool false)) fun v18 =>
  gw v18 true (fun K => rd h17 (.fieldAddr 18 v0) fun v19 => K v19 h17) h17 fun v20 h21 =>
  gw v18 true (fun K => rd h21 (.load1 v20) fun v22 => K v22 h21) h21 fun v23 h24 =>
  gw v18 true (fun K => rd h24 (.bin .eql (some (.leaf .int)) v23 (.int .i64 (-1))) fun v25 => K v25 h24) h24 fun v26 h27 =>
  gw v18 true (fun K => K v26 h27) h27 fun v28 h29 =>
  gw v28 false (fun K => K x2 h29) h29 fun v30 h31 =>
  gw v28 false (fun K => rd h31 (.fieldAddr 18 v0) fun v32 => K v32 h31) h31 fun v33 h34 =>
  gw v28 false (fun K => rd h34 (.load1 v33) fun v35 => K v35 h34) h34 fun v36 h37 =>
  gw v28 false (fun K => rd h37 (.fieldAddr 2 v2) fun v38 => K v38 h37) h37 fun v39 h40 =>
  gw v28 false (fun K => rd h40 (.load1 v39) fun v41 => K v41 h40) h40 fun v42 h43 =>
  gw v28 false (fun K => al h43 (.buildSlice [(.int .i64 0)] 2 [(0, 1, v36), (1, 1, v42)]) fun v44 h45 => K v44 h45) h43 fun v46 h47 =>
  gw v28 false (fun K => cl n_num_Add [v46] h47 fun v48 h49 => K v48 h49) h47 fun v50 h51 =>
  gw v28 false (fun K => rd h51 (.bin .geq none v30 v50) fun v52 => K v52 h51) h51 fun v53 h54 =>
  gw v18 true (fun K => rd h54 (.pick v28 (.bool true) v53) fun v55 => K v55 h54) h54 fun v56 h57 =>
  rd h57 (.pick v18 v56 (.bool false)) fun v58 =>
  Q v58 h57
theorem task_May_wp {x0 x1 x2 : AVal} {h : Heap} {Q : AVal → Heap → Prop} (H : task_May x0 x1 x2 h Q) : cl n_task_May [x0, x1, x2] h Q :=
  wcl (vs := []) (fn := compFunc tb21 Tryz.f183) (by kernel_rfl) (by kernel_rfl) (by kernel_rfl : task_May x0 x1 x2 h Q = wpG cl [] (compFunc tb21 Tryz.f183) [x0, x1, x2] h Q) H
/-- (coxswain/task.thread).begin -/
def task_thread_begin (x0 x1 x2 : AVal) (h : Heap) (Q : AVal → Heap → Prop) : Prop :=
  al h (.box x0) fun v0 h1 =>
  al h1 (.box x1) fun v2 h3 =>
  al h3 (.alloc [(.int .i64 0), (.int .i64 0), (.int .i64 0), (.int .i64 0), (.int .i64 0), (.int .i64 0), (.int .i64 0), (.int .i64 0), (.int .i64 0), (.bool false), (.int .i64 0), (.int .i64 0), (.int .i64 0), (.str []), (.bool false), (.int .i64 0), (.int .i64 0), (.int .i64 0), (.int .i64 0), (.int .i64 0), .nilslice]) fun v4 h5 =>
  rd h5 (.fieldAddr 5 v0) fun v6 =>
  wr h5 (.storeN 1 v6 (.int .i64 1)) fun v7 h8 =>
  rd h8 (.fieldAddr 14 v0) fun v9 =>
  wr h8 (.storeN 1 v9 (.bool true)) fun v10 h11 =>
  rd h11 (.fieldAddr 15 v0) fun v12 =>
  wr h11 (.storeN 1 v12 x2) fun v13 h14 =>
  rd h14 (.fieldAddr 18 v0) fun v15 =>
  wr h14 (.storeN 1 v15 x2) fun v16 h17 =>
  rd h17 (.fieldAddr 3 v2) fun v18 =>
  rd h17 (.load1 v18) fun v19 =>
  al h17 (.buildSlice [(.int .i64 0)] 2 [(0, 1, x2), (1, 1, v19)]) fun v20 h21 =>
  cl n_num_Add [v20] h21 fun v22 h23 =>
  rd h23 (.fieldAddr 16 v0) fun v24 =>
  wr h23 (.storeN 1 v24 v22) fun v25 h26 =>
  rd h26 (.fieldAddr 0 v2) fun v27 =>
  rd h26 (.load1 v27) fun v28 =>
  rd h26 (.bin .eql (some (.leaf .int)) v28 (.int .i64 1)) fun v29 =>
  let J55 := fun (h30 : Heap) =>
  rd h30 (.build [(.int .i64 0), (.int .i64 0), (.str [])] []) fun v35 =>
  rd h30 (.fieldAddr 17 v0) fun v36 =>
  wr h30 (.storeN 1 v36 (.int .i64 0)) fun v37 h38 =>
  rd h38 (.fieldAddr 7 v0) fun v39 =>
  wr h38 (.storeN 1 v39 (.int .i64 0)) fun v40 h41 =>
  rd h41 (.fieldAddr 8 v0) fun v42 =>
  wr h41 (.storeN 1 v42 (.int .i64 0)) fun v43 h44 =>
  rd h44 (.fieldAddr 10 v0) fun v45 =>
  wr h44 (.storeN 1 v45 (.int .i64 0)) fun v46 h47 =>
  rd h47 (.fieldAddr 11 v0) fun v48 =>
  wr h47 (.storeN 3 v48 v35) fun v49 h50 =>
  rd h50 (.loadN 21 v0) fun v51 =>
  wr h50 (.storeN 21 v4 v51) fun v52 h53 =>
  rd h53 (.loadN 21 v4) fun v54 =>
  Q v54 h53
br v29 (
  rd h26 (.fieldAddr 16 v0) fun v56 =>
  rd h26 (.load1 v56) fun v57 =>
  rd h26 (.fieldAddr 2 v0) fun v58 =>
  rd h26 (.fieldAddr 2 v58) fun v59 =>
  wr h26 (.storeN 1 v59 v57) fun v60 h61 =>
  J55 h61) (
  J55 h26)
theorem task_thread_begin_wp {x0 x1 x2 : AVal} {h : Heap} {Q : AVal → Heap → Prop} (H : task_thread_begin x0 x1 x2 h Q) : cl n_task_thread_begin [x0, x1, x2] h Q :=
  wcl (vs := []) (fn := compFunc tb21 Tryz.f184) (by kernel_rfl) (by kernel_rfl) (by kernel_rfl : task_thread_begin x0 x1 x2 h Q = wpG cl [] (compFunc tb21 Tryz.f184) [x0, x1, x2] h Q) H
/-- coxswain/task.Release -/
def task_Release (x0 x1 x2 : AVal) (h : Heap) (Q : AVal → Heap → Prop) : Prop :=
  al h (.box x0) fun v0 h1 =>
  al h1 (.box x1) fun v2 h3 =>
  al h3 (.alloc [(.int .i64 0), (.int .i64 0), (.int .i64 0), (.int .i64 0), (.int .i64 0), (.int .i64 0), (.int .i64 0), (.int .i64 0), (.int .i64 0), (.bool false), (.int .i64 0), (.int .i64 0), (.int .i64 0), (.str []), (.bool false), (.int .i64 0), (.int .i64 0), (.int .i64 0), (.int .i64 0), (.int .i64 0), .nilslice]) fun v4 h5 =>
  rd h5 (.loadN 21 v0) fun v6 =>
  rd h5 (.loadN 8 v2) fun v7 =>
  cl n_task_May [v6, v7, x2] h5 fun v8 h9 =>
  rd h9 (.un .not v8) fun v10 =>
  br v10 (
  rd h9 (.loadN 21 v0) fun v11 =>
  cl n_task_own [v11] h9 fun v12 h13 =>
  wr h13 (.storeN 21 v4 v12) fun v14 h15 =>
  rd h15 (.loadN 21 v4) fun v16 =>
  Q (.tuple [v16, (.bool false)]) h15) (
  rd h9 (.loadN 21 v0) fun v17 =>
  rd h9 (.loadN 8 v2) fun v18 =>
  cl n_task_thread_begin [v17, v18, x2] h9 fun v19 h20 =>
  cl n_task_own [v19] h20 fun v21 h22 =>
  wr h22 (.storeN 21 v4 v21) fun v23 h24 =>
  rd h24 (.loadN 21 v4) fun v25 =>
  Q (.tuple [v25, (.bool true)]) h24)
theorem task_Release_wp {x0 x1 x2 : AVal} {h : Heap} {Q : AVal → Heap → Prop} (H : task_Release x0 x1 x2 h Q) : cl n_task_Release [x0, x1, x2] h Q :=
  wcl (vs := []) (fn := compFunc tb21 Tryz.f131) (by kernel_rfl) (by kernel_rfl) (by kernel_rfl : task_Release x0 x1 x2 h Q = wpG cl [] (compFunc tb21 Tryz.f131) [x0, x1, x2] h Q) H
/-- coxswain/task.own -/
def task_own (x0 : AVal) (h : Heap) (Q : AVal → Heap → Prop) : Prop :=
  al h (.box x0) fun v0 h1 =>
  al h1 (.alloc [(.int .i64 0), (.int .i64 0), (.int .i64 0), (.int .i64 0), (.int .i64 0), (.int .i64 0), (.int .i64 0), (.int .i64 0), (.int .i64 0), (.bool false), (.int .i64 0), (.int .i64 0), (.int .i64 0), (.str []), (.bool false), (.int .i64 0), (.int .i64 0), (.int .i64 0), (.int .i64 0), (.int .i64 0), .nilslice]) fun v2 h3 =>
  rd h3 (.fieldAddr 20 v0) fun v4 =>
  rd h3 (.load1 v4) fun v5 =>
  cl n_slices_Clone_slapi_Held_api_Held_ [v5] h3 fun v6 h7 =>
  rd h7 (.fieldAddr 20 v0) fun v8 =>
  wr h7 (.storeN 1 v8 v6) fun v9 h10 =>
  rd h10 (.loadN 21 v0) fun v11 =>
  wr h10 (.storeN 21 v2 v11) fun v12 h13 =>
  rd h13 (.loadN 21 v2) fun v14 =>
  Q v14 h13
theorem task_own_wp {x0 : AVal} {h : Heap} {Q : AVal → Heap → Prop} (H : task_own x0 h Q) : cl n_task_own [x0] h Q :=
  wcl (vs := []) (fn := compFunc tb21 Tryz.f140) (by kernel_rfl) (by kernel_rfl) (by kernel_rfl : task_own x0 h Q = wpG cl [] (compFunc tb21 Tryz.f140) [x0] h Q) H
/-- coxswain/task.Run -/
def task_Run (x0 x1 : AVal) (h : Heap) (Q : AVal → Heap → Prop) : Prop :=
  al h (.box x0) fun v0 h1 =>
  al h1 (.alloc [(.int .i64 0), (.int .i64 0), (.int .i64 0), (.int .i64 0), (.int .i64 0), (.int .i64 0), (.int .i64 0), (.int .i64 0), (.int .i64 0), (.bool false), (.int .i64 0), (.int .i64 0), (.int .i64 0), (.str []), (.bool false), (.int .i64 0), (.int .i64 0), (.int .i64 0), (.int .i64 0), (.int .i64 0), .nilslice]) fun v2 h3 =>
  rd h3 (.fieldAddr 17 v0) fun v4 =>
  rd h3 (.load1 v4) fun v5 =>
  al h3 (.buildSlice [(.int .i64 0)] 2 [(0, 1, v5), (1, 1, x1)]) fun v6 h7 =>
  cl n_num_Add [v6] h7 fun v8 h9 =>
  rd h9 (.fieldAddr 17 v0) fun v10 =>
  wr h9 (.storeN 1 v10 v8) fun v11 h12 =>
  rd h12 (.loadN 21 v0) fun v13 =>
  cl n_task_own [v13] h12 fun v14 h15 =>
  wr h15 (.storeN 21 v2 v14) fun v16 h17 =>
  rd h17 (.loadN 21 v2) fun v18 =>
  Q v18 h17
theorem task_Run_wp {x0 x1 : AVal} {h : Heap} {Q : AVal → Heap → Prop} (H : task_Run x0 x1 h Q) : cl n_task_Run [x0, x1] h Q :=
  wcl (vs := []) (fn := compFunc tb21 Tryz.f100) (by kernel_rfl) (by kernel_rfl) (by kernel_rfl : task_Run x0 x1 h Q = wpG cl [] (compFunc tb21 Tryz.f100) [x0, x1] h Q) H
/-- coxswain/task.Over -/
def task_Over (x0 x1 x2 : AVal) (h : Heap) (Q : AVal → Heap → Prop) : Prop :=
  al h (.box x0) fun v0 h1 =>
  al h1 (.box x1) fun v2 h3 =>
  rd h3 (.fieldAddr 14 v0) fun v4 =>
  rd h3 (.load1 v4) fun v5 =>
  gp v5 true (fun K => rd h3 (.fieldAddr 17 v0) fun v6 => K v6 h3 []) h3 [] fun v7 h8 p9 =>
  gp v5 true (fun K => rd h8 (.load1 v7) fun v10 => K v10 h8 p9) h8 p9 fun v11 h12 p13 =>
  gp v5 true (fun K => K x2 h12 p13) h12 p13 fun v14 h15 p16 =>
  gp v5 true (fun K => al h15 (.buildSlice [(.int .i64 0)] 2 [(0, 1, v11), (1, 1, v14)]) fun v17 h18 => K v17 h18 p16) h15 p16 fun v19 h20 p21 =>
  gp v5 true (fun K => rd h20 (.fieldAddr 4 v2) fun v22 => K v22 h20 p21) h20 p21 fun v23 h24 p25 =>
  gp v5 true (fun K => rd h24 (.load1 v23) fun v26 => K v26 h24 (⟨(.load1 v23), v26, [1]⟩ :: p25)) h24 p25 fun v27 h28 p29 =>
  gp v5 true (fun K => cl n_num_Add [v19] h28 fun v30 h31 => K v30 h31 p29) h28 p29 fun v32 h33 p34 =>
  gp v5 true (fun K => rd h33 (.bin .gtr none v32 v27) fun v35 => K v35 h33 p34) h33 p34 fun v36 h37 p38 =>
  rd h37 (.pick v5 v36 (.bool false)) fun v39 =>
  ck [h28, h37] p38 (Q v39 h37)
theorem task_Over_wp {x0 x1 x2 : AVal} {h : Heap} {Q : AVal → Heap → Prop} (H : task_Over x0 x1 x2 h Q) : cl n_task_Over [x0, x1, x2] h Q :=
  wcl (vs := []) (fn := compFunc tb21 Tryz.f193) (by kernel_rfl) (by kernel_rfl) (by kernel_rfl : task_Over x0 x1 x2 h Q = wpG cl [] (compFunc tb21 Tryz.f193) [x0, x1, x2] h Q) H
/-- coxswain/task.End -/
def task_End (x0 x1 x2 : AVal) (h : Heap) (Q : AVal → Heap → Prop) : Prop :=
  al h (.box x0) fun v0 h1 =>
  al h1 (.alloc [(.int .i64 0), (.int .i64 0), (.int .i64 0), (.int .i64 0), (.int .i64 0), (.int .i64 0), (.int .i64 0), (.int .i64 0), (.int .i64 0), (.bool false), (.int .i64 0), (.int .i64 0), (.int .i64 0), (.str []), (.bool false), (.int .i64 0), (.int .i64 0), (.int .i64 0), (.int .i64 0), (.int .i64 0), .nilslice]) fun v2 h3 =>
  al h3 (.alloc [(.int .i64 0), (.int .i64 0), (.int .i64 0), (.int .i64 0), (.int .i64 0), (.bool false)]) fun v4 h5 =>
  rd h5 (.fieldAddr 0 v0) fun v6 =>
  rd h5 (.load1 v6) fun v7 =>
  rd h5 (.fieldAddr 15 v0) fun v8 =>
  rd h5 (.load1 v8) fun v9 =>
  rd h5 (.fieldAddr 16 v0) fun v10 =>
  rd h5 (.load1 v10) fun v11 =>
  rd h5 (.fieldAddr 17 v0) fun v12 =>
  rd h5 (.load1 v12) fun v13 =>
  rd h5 (.build [(.int .i64 0), (.int .i64 0), (.int .i64 0), (.int .i64 0), (.int .i64 0), (.bool false)] [(0, 1, v7), (1, 1, v9), (2, 1, v11), (3, 1, x1), (4, 1, v13), (5, 1, x2)]) fun v14 =>
  al h5 (.alloc [(.int .i64 0), (.int .i64 0), (.int .i64 0), (.int .i64 0), (.int .i64 0), (.bool false)]) fun v15 h16 =>
  wr h16 (.storeN 6 v15 v14) fun v17 h18 =>
  rd h18 (.fieldAddr 5 v0) fun v19 =>
  wr h18 (.storeN 1 v19 (.int .i64 0)) fun v20 h21 =>
  rd h21 (.fieldAddr 14 v0) fun v22 =>
  wr h21 (.storeN 1 v22 (.bool false)) fun v23 h24 =>
  rd h24 (.fieldAddr 9 v0) fun v25 =>
  wr h24 (.storeN 1 v25 (.bool false)) fun v26 h27 =>
  rd h27 (.fieldAddr 6 v0) fun v28 =>
  wr h27 (.storeN 1 v28 (.int .i64 (-1))) fun v29 h30 =>
  rd h30 (.build [(.int .i64 0), (.int .i64 0), (.str [])] []) fun v31 =>
  rd h30 (.fieldAddr 7 v0) fun v32 =>
  wr h30 (.storeN 1 v32 (.int .i64 0)) fun v33 h34 =>
  rd h34 (.fieldAddr 8 v0) fun v35 =>
  wr h34 (.storeN 1 v35 (.int .i64 0)) fun v36 h37 =>
  rd h37 (.fieldAddr 10 v0) fun v38 =>
  wr h37 (.storeN 1 v38 (.int .i64 0)) fun v39 h40 =>
  rd h40 (.fieldAddr 17 v0) fun v41 =>
  wr h40 (.storeN 1 v41 (.int .i64 0)) fun v42 h43 =>
  rd h43 (.fieldAddr 11 v0) fun v44 =>
  wr h43 (.storeN 3 v44 v31) fun v45 h46 =>
  rd h46 (.loadN 21 v0) fun v47 =>
  rd h46 (.loadN 6 v15) fun v48 =>
  cl n_task_own [v47] h46 fun v49 h50 =>
  wr h50 (.storeN 21 v2 v49) fun v51 h52 =>
  wr h52 (.storeN 6 v4 v48) fun v53 h54 =>
  ck [h46, h50, h52, h54] (⟨(.loadN 6 v15), v48, [1, 2]⟩ :: []) (rd h54 (.loadN 21 v2) fun v55 =>
  rd h54 (.loadN 6 v4) fun v56 =>
  Q (.tuple [v55, v56]) h54)
theorem task_End_wp {x0 x1 x2 : AVal} {h : Heap} {Q : AVal → Heap → Prop} (H : task_End x0 x1 x2 h Q) : cl n_task_End [x0, x1, x2] h Q :=
  wcl (vs := []) (fn := compFunc tb21 Tryz.f238) (by kernel_rfl) (by kernel_rfl) (by kernel_rfl : task_End x0 x1 x2 h Q = wpG cl [] (compFunc tb21 Tryz.f238) [x0, x1, x2] h Q) H
/-- slices.Clone[[]coxswain/api.Held,coxswain/api.Held] -/
def slices_Clone_slapi_Held_api_Held_ (x0 : AVal) (h : Heap) (Q : AVal → Heap → Prop) : Prop :=
  rd h (.bin .eql (some .slice) x0 .nilslice) fun v0 =>
  br v0 (
  Q .nilslice h) (
  al h (.buildSlice [(.int .i64 0), (.int .i64 0)] 0 []) fun v1 h2 =>
  wr h2 (.append 2 16 v1 x0) fun v3 h4 =>
  Q v3 h4)
theorem slices_Clone_slapi_Held_api_Held__wp {x0 : AVal} {h : Heap} {Q : AVal → Heap → Prop} (H : slices_Clone_slapi_Held_api_Held_ x0 h Q) : cl n_slices_Clone_slapi_Held_api_Held_ [x0] h Q :=
  wcl (vs := []) (fn := compFunc tb21 Tryz.f108) (by kernel_rfl) (by kernel_rfl) (by kernel_rfl : slices_Clone_slapi_Held_api_Held_ x0 h Q = wpG cl [] (compFunc tb21 Tryz.f108) [x0] h Q) H

end Go.AM

open Go Go.AM Go.Proofs
namespace Go.AM
set_option maxRecDepth 100000
set_option linter.unusedVariables false
/-- coxswain/locks.New -/
def locks_New (x0 : AVal) (h : Heap) (Q : AVal → Heap → Prop) : Prop :=
  rd h (.bin .eql (some (.leaf .ptr)) x0 .nilptr) fun v0 =>
  let J14 := fun (x6 : AVal) (h1 : Heap) =>
  al h1 AOp.mkMap fun v7 h8 =>
  al h8 AOp.mkMap fun v9 h10 =>
  rd h10 (.build [.nilptr, .nilmap, .nilmap] [(0, 1, x6), (1, 1, v7), (2, 1, v9)]) fun v11 =>
  al h10 (.box v11) fun v12 h13 =>
  Q v12 h13
br v0 (
  cl n_rank_New [.nilslice] h fun v15 h16 =>
  rd h16 (.extract v15 0) fun v17 =>
  rd h16 (.extract v15 1) fun v18 =>
  J14 v17 h16) (
  J14 x0 h)
theorem locks_New_wp {x0 : AVal} {h : Heap} {Q : AVal → Heap → Prop} (H : locks_New x0 h Q) : cl n_locks_New [x0] h Q :=
  wcl (vs := []) (fn := compFunc tb21 Tryz.f34) (by kernel_rfl) (by kernel_rfl) (by kernel_rfl : locks_New x0 h Q = wpG cl [] (compFunc tb21 Tryz.f34) [x0] h Q) H
def cond_New_g1 (v0 : AVal) (x0 : AVal) (h : Heap) (K : AVal → Heap → Prop) : Prop :=
  gw v0 false (fun K => K x0 h) h fun v1 h2 =>
  gw v0 false (fun K => rd h2 (.bin .gtr none v1 (.int .i64 4)) fun v3 => K v3 h2) h2 fun v4 h5 =>
  rd h5 (.pick v0 (.bool true) v4) fun v6 =>
  K v6 h5
theorem cond_New_g1_mono {v0 : AVal} {x0 : AVal} {h : Heap} {K L : AVal → Heap → Prop} (hk : ∀ v h, K v h → L v h) (w : cond_New_g1 v0 x0 h K) : cond_New_g1 v0 x0 h L := (gw_mv_mono fun _ _ => (gw_rd_mono fun _ _ => (rd_mono fun _ => hk _ _))) w
@[congr] theorem cond_New_g1_congr {v0 v0' : AVal} {x0 x0' : AVal} {h h' : Heap} {K : AVal → Heap → Prop} (e0 : v0 = v0') (e1 : x0 = x0') (e2 : h = h') {u : Unit} (_t : tokA = u) : cond_New_g1 v0 x0 h K = cond_New_g1 v0' x0' h' K := by rw [e0, e1, e2]

/-- coxswain/cond.New -/
def cond_New (x0 : AVal) (h : Heap) (Q : AVal → Heap → Prop) : Prop :=
  rd h (.bin .lss none x0 (.int .i64 1)) fun v0 =>
  cond_New_g1 v0 x0 h fun v7 h8 =>
  br v7 (
  Q (.tuple [.nilptr, (.int .i64 2)]) h8) (
  al h8 (.mkSlice 24 [.nilslice] x0 x0) fun v9 h10 =>
  rd h10 (.build [.nilslice] [(0, 1, v9)]) fun v11 =>
  al h10 (.box v11) fun v12 h13 =>
  Q (.tuple [v12, (.int .i64 0)]) h13)
theorem cond_New_wp {x0 : AVal} {h : Heap} {Q : AVal → Heap → Prop} (H : cond_New x0 h Q) : cl n_cond_New [x0] h Q :=
  wcl (vs := []) (fn := compFunc tb21 Tryz.f35) (by kernel_rfl) (by kernel_rfl) (by kernel_rfl : cond_New x0 h Q = wpG cl [] (compFunc tb21 Tryz.f35) [x0] h Q) H
def wheel_New_g1 (v0 : AVal) (x0 : AVal) (h : Heap) (K : AVal → Heap → Prop) : Prop :=
  gw v0 false (fun K => K x0 h) h fun v1 h2 =>
  gw v0 false (fun K => rd h2 (.bin .geq none v1 (.int .i64 16777216)) fun v3 => K v3 h2) h2 fun v4 h5 =>
  rd h5 (.pick v0 (.bool true) v4) fun v6 =>
  K v6 h5
theorem wheel_New_g1_mono {v0 : AVal} {x0 : AVal} {h : Heap} {K L : AVal → Heap → Prop} (hk : ∀ v h, K v h → L v h) (w : wheel_New_g1 v0 x0 h K) : wheel_New_g1 v0 x0 h L := (gw_mv_mono fun _ _ => (gw_rd_mono fun _ _ => (rd_mono fun _ => hk _ _))) w
@[congr] theorem wheel_New_g1_congr {v0 v0' : AVal} {x0 x0' : AVal} {h h' : Heap} {K : AVal → Heap → Prop} (e0 : v0 = v0') (e1 : x0 = x0') (e2 : h = h') {u : Unit} (_t : tokA = u) : wheel_New_g1 v0 x0 h K = wheel_New_g1 v0' x0' h' K := by rw [e0, e1, e2]

/-- coxswain/wheel.New -/
def wheel_New (x0 : AVal) (h : Heap) (Q : AVal → Heap → Prop) : Prop :=
  rd h (.bin .lss none x0 (.int .i64 0)) fun v0 =>
  wheel_New_g1 v0 x0 h fun v7 h8 =>
  br v7 (
  Q (.tuple [.nilptr, (.int .i64 2)]) h8) (
  rd h8 (.build [(.int .i64 0), .nilslice, .nilslice, .nilslice, .nilslice, .nilslice, .nilslice, .nilslice, .nilslice, .nilslice, .nilslice, .nilslice, .nilslice, .nilslice, .nilslice, .nilslice, .nilslice, .nilslice, .nilslice, .nilslice, .nilslice, .nilslice, .nilslice, .nilslice, .nilslice, .nilslice, .nilslice, .nilslice, .nilslice, .nilslice, .nilslice, .nilslice, .nilslice, .nilslice, .nilslice, .nilslice, .nilslice, .nilslice, .nilslice, .nilslice, .nilslice, .nilslice, .nilslice, .nilslice, .nilslice, .nilslice, .nilslice, .nilslice, .nilslice, .nilslice, .nilslice, .nilslice, .nilslice, .nilslice, .nilslice, .nilslice, .nilslice, .nilslice, .nilslice, .nilslice, .nilslice, .nilslice, .nilslice, .nilslice, .nilslice, .nilslice, .nilslice, .nilslice, .nilslice, .nilslice, .nilslice, .nilslice, .nilslice, .nilslice, .nilslice, .nilslice, .nilslice, .nilslice, .nilslice, .nilslice, .nilslice, .nilslice, .nilslice, .nilslice, .nilslice, .nilslice, .nilslice, .nilslice, .nilslice, .nilslice, .nilslice, .nilslice, .nilslice, .nilslice, .nilslice, .nilslice, .nilslice, .nilslice, .nilslice, .nilslice, .nilslice, .nilslice, .nilslice, .nilslice, .nilslice, .nilslice, .nilslice, .nilslice, .nilslice, .nilslice, .nilslice, .nilslice, .nilslice, .nilslice, .nilslice, .nilslice, .nilslice, .nilslice, .nilslice, .nilslice, .nilslice, .nilslice, .nilslice, .nilslice, .nilslice, .nilslice, .nilslice, .nilslice, .nilslice, .nilslice, .nilslice, .nilslice, .nilslice, .nilslice, .nilslice, .nilslice, .nilslice, .nilslice, .nilslice, .nilslice, .nilslice, .nilslice, .nilslice, .nilslice, .nilslice, .nilslice, .nilslice, .nilslice, .nilslice, .nilslice, .nilslice, .nilslice, .nilslice, .nilslice, .nilslice, .nilslice, .nilslice, .nilslice, .nilslice, .nilslice, .nilslice, .nilslice, .nilslice, .nilslice, .nilslice, .nilslice, .nilslice, .nilslice, .nilslice, .nilslice, .nilslice, .nilslice, .nilslice, .nilslice, .nilslice, .nilslice, .nilslice, .nilslice, .nilslice, .nilslice, .nilslice, .nilslice, .nilslice, .nilslice, .nilslice, .nilslice, .nilslice, .nilslice, .nilslice, .nilslice, .nilslice, .nilslice, .nilslice, .nilslice, .nilslice, .nilslice, .nilslice, .nilslice, .nilslice, .nilslice, .nilslice, .nilslice, .nilslice, .nilslice, .nilslice, .nilslice, .nilslice, .nilslice, .nilslice, .nilslice, .nilslice, .nilslice, .nilslice, .nilslice, .nilslice, .nilslice, .nilslice, .nilslice, .nilslice, .nilslice, .nilslice, .nilslice, .nilslice, .nilslice, .nilslice, .nilslice, .nilslice, .nilslice, .nilslice, .nilslice, .nilslice, .nilslice, .nilslice, .nilslice, .nilslice, .nilslice, .nilslice, .nilslice, .nilslice, .nilslice, .nilslice, .nilslice, .nilslice, .nilslice, .nilslice, .nilslice, .nilslice, .nilslice, .nilslice, .nilslice, .nilslice, .nilslice, .nilslice, .nilslice, .nilslice, .nilslice, .nilslice, (.int .i64 0)] [(0, 1, x0)]) fun v9 =>
  al h8 (.box v9) fun v10 h11 =>
  Q (.tuple [v10, (.int .i64 0)]) h11)
theorem wheel_New_wp {x0 : AVal} {h : Heap} {Q : AVal → Heap → Prop} (H : wheel_New x0 h Q) : cl n_wheel_New [x0] h Q :=
  wcl (vs := []) (fn := compFunc tb21 Tryz.f36) (by kernel_rfl) (by kernel_rfl) (by kernel_rfl : wheel_New x0 h Q = wpG cl [] (compFunc tb21 Tryz.f36) [x0] h Q) H
def line_New_g1 (v0 : AVal) (x0 : AVal) (h : Heap) (K : AVal → Heap → Prop) : Prop :=
  gw v0 false (fun K => K x0 h) h fun v1 h2 =>
  gw v0 false (fun K => rd h2 (.bin .gtr none v1 (.int .i64 1000)) fun v3 => K v3 h2) h2 fun v4 h5 =>
  rd h5 (.pick v0 (.bool true) v4) fun v6 =>
  K v6 h5
theorem line_New_g1_mono {v0 : AVal} {x0 : AVal} {h : Heap} {K L : AVal → Heap → Prop} (hk : ∀ v h, K v h → L v h) (w : line_New_g1 v0 x0 h K) : line_New_g1 v0 x0 h L := (gw_mv_mono fun _ _ => (gw_rd_mono fun _ _ => (rd_mono fun _ => hk _ _))) w
@[congr] theorem line_New_g1_congr {v0 v0' : AVal} {x0 x0' : AVal} {h h' : Heap} {K : AVal → Heap → Prop} (e0 : v0 = v0') (e1 : x0 = x0') (e2 : h = h') {u : Unit} (_t : tokA = u) : line_New_g1 v0 x0 h K = line_New_g1 v0' x0' h' K := by rw [e0, e1, e2]

/-- coxswain/line.New -/
def line_New (x0 : AVal) (h : Heap) (Q : AVal → Heap → Prop) : Prop :=
  rd h (.bin .lss none x0 (.int .i64 1)) fun v0 =>
  line_New_g1 v0 x0 h fun v7 h8 =>
  br v7 (
  Q (.tuple [.nilptr, (.int .i64 2)]) h8) (
  rd h8 (.build [(.int .i64 0), (.int .i64 0), (.int .i64 0), (.bool false), (.bool false)] [(0, 1, x0)]) fun v9 =>
  al h8 (.box v9) fun v10 h11 =>
  Q (.tuple [v10, (.int .i64 0)]) h11)
theorem line_New_wp {x0 : AVal} {h : Heap} {Q : AVal → Heap → Prop} (H : line_New x0 h Q) : cl n_line_New [x0] h Q :=
  wcl (vs := []) (fn := compFunc tb21 Tryz.f37) (by kernel_rfl) (by kernel_rfl) (by kernel_rfl : line_New x0 h Q = wpG cl [] (compFunc tb21 Tryz.f37) [x0] h Q) H
def dog_New_g1 (v0 : AVal) (x0 : AVal) (h : Heap) (K : AVal → Heap → Prop) : Prop :=
  gw v0 false (fun K => K x0 h) h fun v1 h2 =>
  gw v0 false (fun K => rd h2 (.bin .gtr none v1 (.int .i64 1099511627776)) fun v3 => K v3 h2) h2 fun v4 h5 =>
  rd h5 (.pick v0 (.bool true) v4) fun v6 =>
  K v6 h5
theorem dog_New_g1_mono {v0 : AVal} {x0 : AVal} {h : Heap} {K L : AVal → Heap → Prop} (hk : ∀ v h, K v h → L v h) (w : dog_New_g1 v0 x0 h K) : dog_New_g1 v0 x0 h L := (gw_mv_mono fun _ _ => (gw_rd_mono fun _ _ => (rd_mono fun _ => hk _ _))) w
@[congr] theorem dog_New_g1_congr {v0 v0' : AVal} {x0 x0' : AVal} {h h' : Heap} {K : AVal → Heap → Prop} (e0 : v0 = v0') (e1 : x0 = x0') (e2 : h = h') {u : Unit} (_t : tokA = u) : dog_New_g1 v0 x0 h K = dog_New_g1 v0' x0' h' K := by rw [e0, e1, e2]

/-- coxswain/dog.New -/
def dog_New (x0 : AVal) (h : Heap) (Q : AVal → Heap → Prop) : Prop :=
  rd h (.bin .lss none x0 (.int .i64 1)) fun v0 =>
  dog_New_g1 v0 x0 h fun v7 h8 =>
  br v7 (
  Q (.tuple [.nilptr, (.int .i64 2)]) h8) (
  rd h8 (.build [(.int .i64 0), (.int .i64 0), .nilslice] [(0, 1, x0)]) fun v9 =>
  al h8 (.box v9) fun v10 h11 =>
  Q (.tuple [v10, (.int .i64 0)]) h11)
theorem dog_New_wp {x0 : AVal} {h : Heap} {Q : AVal → Heap → Prop} (H : dog_New x0 h Q) : cl n_dog_New [x0] h Q :=
  wcl (vs := []) (fn := compFunc tb21 Tryz.f38) (by kernel_rfl) (by kernel_rfl) (by kernel_rfl : dog_New x0 h Q = wpG cl [] (compFunc tb21 Tryz.f38) [x0] h Q) H
def frames_New_g1 (v0 : AVal) (x0 : AVal) (h : Heap) (K : AVal → Heap → Prop) : Prop :=
  gw v0 false (fun K => K x0 h) h fun v1 h2 =>
  gw v0 false (fun K => rd h2 (.bin .gtr none v1 (.int .i64 64)) fun v3 => K v3 h2) h2 fun v4 h5 =>
  rd h5 (.pick v0 (.bool true) v4) fun v6 =>
  K v6 h5
theorem frames_New_g1_mono {v0 : AVal} {x0 : AVal} {h : Heap} {K L : AVal → Heap → Prop} (hk : ∀ v h, K v h → L v h) (w : frames_New_g1 v0 x0 h K) : frames_New_g1 v0 x0 h L := (gw_mv_mono fun _ _ => (gw_rd_mono fun _ _ => (rd_mono fun _ => hk _ _))) w
@[congr] theorem frames_New_g1_congr {v0 v0' : AVal} {x0 x0' : AVal} {h h' : Heap} {K : AVal → Heap → Prop} (e0 : v0 = v0') (e1 : x0 = x0') (e2 : h = h') {u : Unit} (_t : tokA = u) : frames_New_g1 v0 x0 h K = frames_New_g1 v0' x0' h' K := by rw [e0, e1, e2]

/-- coxswain/frames.New -/
def frames_New (x0 : AVal) (h : Heap) (Q : AVal → Heap → Prop) : Prop :=
  rd h (.bin .lss none x0 (.int .i64 1)) fun v0 =>
  frames_New_g1 v0 x0 h fun v7 h8 =>
  br v7 (
  Q (.tuple [.nilptr, (.int .i64 2)]) h8) (
  al h8 (.mkSlice 64 [(.int .u8 0), (.int .u8 0), (.int .u8 0), (.int .u8 0), (.int .u8 0), (.int .u8 0), (.int .u8 0), (.int .u8 0), (.int .u8 0), (.int .u8 0), (.int .u8 0), (.int .u8 0), (.int .u8 0), (.int .u8 0), (.int .u8 0), (.int .u8 0), (.int .u8 0), (.int .u8 0), (.int .u8 0), (.int .u8 0), (.int .u8 0), (.int .u8 0), (.int .u8 0), (.int .u8 0), (.int .u8 0), (.int .u8 0), (.int .u8 0), (.int .u8 0), (.int .u8 0), (.int .u8 0), (.int .u8 0), (.int .u8 0), (.int .u8 0), (.int .u8 0), (.int .u8 0), (.int .u8 0), (.int .u8 0), (.int .u8 0), (.int .u8 0), (.int .u8 0), (.int .u8 0), (.int .u8 0), (.int .u8 0), (.int .u8 0), (.int .u8 0), (.int .u8 0), (.int .u8 0), (.int .u8 0), (.int .u8 0), (.int .u8 0), (.int .u8 0), (.int .u8 0), (.int .u8 0), (.int .u8 0), (.int .u8 0), (.int .u8 0), (.int .u8 0), (.int .u8 0), (.int .u8 0), (.int .u8 0), (.int .u8 0), (.int .u8 0), (.int .u8 0), (.int .u8 0)] x0 x0) fun v9 h10 =>
  al h10 (.mkSlice 8 [(.int .i64 0)] x0 x0) fun v11 h12 =>
  rd h12 (.build [.nilslice, .nilslice, .nilslice, (.int .i64 0)] [(0, 1, v9), (1, 1, v11)]) fun v13 =>
  al h12 (.box v13) fun v14 h15 =>
  ck [h15] [] (Q (.tuple [v14, (.int .i64 0)]) h15))
theorem frames_New_wp {x0 : AVal} {h : Heap} {Q : AVal → Heap → Prop} (H : frames_New x0 h Q) : cl n_frames_New [x0] h Q :=
  wcl (vs := []) (fn := compFunc tb21 Tryz.f77) (by kernel_rfl) (by kernel_rfl) (by kernel_rfl : frames_New x0 h Q = wpG cl [] (compFunc tb21 Tryz.f77) [x0] h Q) H
/-- coxswain/vfs.New -/
def vfs_New (x0 : AVal) (h : Heap) (Q : AVal → Heap → Prop) : Prop :=
  cl n_store_New [x0] h fun v0 h1 =>
  cl n_inode_New [v0] h1 fun v2 h3 =>
  rd h3 (.build [.nilptr, .nilptr] [(0, 1, v0), (1, 1, v2)]) fun v4 =>
  al h3 (.box v4) fun v5 h6 =>
  Q v5 h6
theorem vfs_New_wp {x0 : AVal} {h : Heap} {Q : AVal → Heap → Prop} (H : vfs_New x0 h Q) : cl n_vfs_New [x0] h Q :=
  wcl (vs := []) (fn := compFunc tb21 Tryz.f78) (by kernel_rfl) (by kernel_rfl) (by kernel_rfl : vfs_New x0 h Q = wpG cl [] (compFunc tb21 Tryz.f78) [x0] h Q) H
/-- coxswain/store.New -/
def store_New (x0 : AVal) (h : Heap) (Q : AVal → Heap → Prop) : Prop :=
  al h AOp.mkMap fun v0 h1 =>
  rd h1 (.build [.nilptr, .nilmap] [(0, 1, x0), (1, 1, v0)]) fun v2 =>
  al h1 (.box v2) fun v3 h4 =>
  Q v3 h4
theorem store_New_wp {x0 : AVal} {h : Heap} {Q : AVal → Heap → Prop} (H : store_New x0 h Q) : cl n_store_New [x0] h Q :=
  wcl (vs := []) (fn := compFunc tb21 Tryz.f120) (by kernel_rfl) (by kernel_rfl) (by kernel_rfl : store_New x0 h Q = wpG cl [] (compFunc tb21 Tryz.f120) [x0] h Q) H
/-- coxswain/inode.New -/
def inode_New (x0 : AVal) (h : Heap) (Q : AVal → Heap → Prop) : Prop :=
  rd h (.build [.nilptr, .nilptr, .nilptr, .nilptr, .nilptr, .nilptr, .nilptr, .nilptr, .nilptr, .nilptr, .nilptr, .nilptr, .nilptr, .nilptr, .nilptr, .nilptr, .nilptr] [(0, 1, x0)]) fun v0 =>
  al h (.box v0) fun v1 h2 =>
  rd h2 (.build [(.bool false), (.int .i64 0), (.int .i64 0), .nilslice] [(0, 1, (.bool true))]) fun v3 =>
  al h2 (.box v3) fun v4 h5 =>
  rd h5 (.nilCheck v1) fun v6 =>
  rd h5 (.fieldAddr 1 v6) fun v7 =>
  rd h5 (.idxAddrA 16 1 v7 (.int .i64 0)) fun v8 =>
  wr h5 (.storeN 1 v8 v4) fun v9 h10 =>
  Q v1 h10
theorem inode_New_wp {x0 : AVal} {h : Heap} {Q : AVal → Heap → Prop} (H : inode_New x0 h Q) : cl n_inode_New [x0] h Q :=
  wcl (vs := []) (fn := compFunc tb21 Tryz.f121) (by kernel_rfl) (by kernel_rfl) (by kernel_rfl : inode_New x0 h Q = wpG cl [] (compFunc tb21 Tryz.f121) [x0] h Q) H
/-- coxswain/fd.New -/
def fd_New (x0 x1 : AVal) (h : Heap) (Q : AVal → Heap → Prop) : Prop :=
  al h AOp.mkMap fun v0 h1 =>
  rd h1 (.build [.nilptr, .nilptr, .nilmap] [(0, 1, x0), (1, 1, x1), (2, 1, v0)]) fun v2 =>
  al h1 (.box v2) fun v3 h4 =>
  Q v3 h4
theorem fd_New_wp {x0 x1 : AVal} {h : Heap} {Q : AVal → Heap → Prop} (H : fd_New x0 x1 h Q) : cl n_fd_New [x0, x1] h Q :=
  wcl (vs := []) (fn := compFunc tb21 Tryz.f79) (by kernel_rfl) (by kernel_rfl) (by kernel_rfl : fd_New x0 x1 h Q = wpG cl [] (compFunc tb21 Tryz.f79) [x0, x1] h Q) H
/-- coxswain/pipe.New -/
def pipe_New (x0 : AVal) (h : Heap) (Q : AVal → Heap → Prop) : Prop :=
  rd h (.build [.nilptr, .nilptr, .nilptr, .nilptr, .nilptr] [(0, 1, x0)]) fun v0 =>
  al h (.box v0) fun v1 h2 =>
  Q v1 h2
theorem pipe_New_wp {x0 : AVal} {h : Heap} {Q : AVal → Heap → Prop} (H : pipe_New x0 h Q) : cl n_pipe_New [x0] h Q :=
  wcl (vs := []) (fn := compFunc tb21 Tryz.f80) (by kernel_rfl) (by kernel_rfl) (by kernel_rfl : pipe_New x0 h Q = wpG cl [] (compFunc tb21 Tryz.f80) [x0] h Q) H
/-- coxswain/slab.New -/
def slab_New (x0 : AVal) (h : Heap) (Q : AVal → Heap → Prop) : Prop :=
  rd h (.mkFunc n_frames_Frames_Take [x0] []) fun v0 =>
  rd h (.mkFunc n_frames_Frames_Give [x0] []) fun v1 =>
  al h AOp.mkMap fun v2 h3 =>
  rd h3 (.build [.nilfunc, .nilfunc, .nilmap] [(0, 1, v0), (1, 1, v1), (2, 1, v2)]) fun v4 =>
  al h3 (.box v4) fun v5 h6 =>
  Q v5 h6
theorem slab_New_wp {x0 : AVal} {h : Heap} {Q : AVal → Heap → Prop} (H : slab_New x0 h Q) : cl n_slab_New [x0] h Q :=
  wcl (vs := []) (fn := compFunc tb21 Tryz.f81) (by kernel_rfl) (by kernel_rfl) (by kernel_rfl : slab_New x0 h Q = wpG cl [] (compFunc tb21 Tryz.f81) [x0] h Q) H
/-- coxswain/proc.New -/
def proc_New (h : Heap) (Q : AVal → Heap → Prop) : Prop :=
  al h AOp.mkMap fun v0 h1 =>
  rd h1 (.build [.nilmap] [(0, 1, v0)]) fun v2 =>
  al h1 (.box v2) fun v3 h4 =>
  Q v3 h4
theorem proc_New_wp {h : Heap} {Q : AVal → Heap → Prop} (H : proc_New  h Q) : cl n_proc_New [] h Q :=
  wcl (vs := []) (fn := compFunc tb21 Tryz.f82) (by kernel_rfl) (by kernel_rfl) (by kernel_rfl : proc_New  h Q = wpG cl [] (compFunc tb21 Tryz.f82) [] h Q) H
/-- coxswain/unix.New -/
def unix_New (x0 : AVal) (h : Heap) (Q : AVal → Heap → Prop) : Prop :=
  cl n_frames_New [x0] h fun v0 h1 =>
  rd h1 (.extract v0 0) fun v2 =>
  rd h1 (.extract v0 1) fun v3 =>
  rd h1 (.bin .neq (some (.leaf .int)) v3 (.int .i64 0)) fun v4 =>
  br v4 (
  Q (.tuple [.nilptr, v3]) h1) (
  cl n_vfs_New [v2] h1 fun v5 h6 =>
  cl n_slab_New [v2] h6 fun v7 h8 =>
  cl n_pipe_New [v7] h8 fun v9 h10 =>
  cl n_fd_New [v5, v9] h10 fun v11 h12 =>
  cl n_proc_New [] h12 fun v13 h14 =>
  rd h14 (.build [.nilptr, .nilptr, .nilptr, .nilptr] [(0, 1, v2), (1, 1, v5), (2, 1, v11), (3, 1, v13)]) fun v15 =>
  al h14 (.box v15) fun v16 h17 =>
  Q (.tuple [v16, (.int .i64 0)]) h17)
theorem unix_New_wp {x0 : AVal} {h : Heap} {Q : AVal → Heap → Prop} (H : unix_New x0 h Q) : cl n_unix_New [x0] h Q :=
  wcl (vs := []) (fn := compFunc tb21 Tryz.f39) (by kernel_rfl) (by kernel_rfl) (by kernel_rfl : unix_New x0 h Q = wpG cl [] (compFunc tb21 Tryz.f39) [x0] h Q) H
/-- (*coxswain/unix.System).Start -/
def unix_System_Start (x0 x1 : AVal) (h : Heap) (Q : AVal → Heap → Prop) : Prop :=
  rd h (.bin .eql (some (.leaf .ptr)) x0 .nilptr) fun v0 =>
  br v0 (
  Q (.int .i64 1) h) (
  rd h (.nilCheck x0) fun v1 =>
  rd h (.fieldAddr 3 v1) fun v2 =>
  rd h (.load1 v2) fun v3 =>
  cl n_proc_Procs_Start [v3, x1, (.int .i64 (-1))] h fun v4 h5 =>
  rd h5 (.bin .neq (some (.leaf .int)) v4 (.int .i64 0)) fun v6 =>
  br v6 (
  Q v4 h5) (
  rd h5 (.nilCheck x0) fun v7 =>
  rd h5 (.fieldAddr 2 v7) fun v8 =>
  rd h5 (.load1 v8) fun v9 =>
  cl n_fd_Fds_Start [v9, x1] h5 fun v10 h11 =>
  Q v10 h11))
theorem unix_System_Start_wp {x0 x1 : AVal} {h : Heap} {Q : AVal → Heap → Prop} (H : unix_System_Start x0 x1 h Q) : cl n_unix_System_Start [x0, x1] h Q :=
  wcl (vs := []) (fn := compFunc tb21 Tryz.f40) (by kernel_rfl) (by kernel_rfl) (by kernel_rfl : unix_System_Start x0 x1 h Q = wpG cl [] (compFunc tb21 Tryz.f40) [x0, x1] h Q) H
def proc_Procs_Start_g1 (v12 : AVal) (x0 : AVal) (h10 : Heap) (x2 : AVal) (K : AVal → Heap → Prop) : Prop :=
  gw v12 true (fun K => K x0 h10) h10 fun v13 h14 =>
  gw v12 true (fun K => K x2 h14) h14 fun v15 h16 =>
  gw v12 true (fun K => cl n_proc_Procs_Alive [v13, v15] h16 fun v17 h18 => K v17 h18) h16 fun v19 h20 =>
  gw v12 true (fun K => rd h20 (.un .not v19) fun v21 => K v21 h20) h20 fun v22 h23 =>
  rd h23 (.pick v12 v22 (.bool false)) fun v24 =>
  K v24 h23
theorem proc_Procs_Start_g1_mono {v12 : AVal} {x0 : AVal} {h10 : Heap} {x2 : AVal} {K L : AVal → Heap → Prop} (hk : ∀ v h, K v h → L v h) (w : proc_Procs_Start_g1 v12 x0 h10 x2 K) : proc_Procs_Start_g1 v12 x0 h10 x2 L := (gw_mv_mono fun _ _ => (gw_mv_mono fun _ _ => (gw_cl_mono fun _ _ => (gw_rd_mono fun _ _ => (rd_mono fun _ => hk _ _))))) w
@[congr] theorem proc_Procs_Start_g1_congr {v12 v12' : AVal} {x0 x0' : AVal} {h10 h10' : Heap} {x2 x2' : AVal} {K : AVal → Heap → Prop} (e0 : v12 = v12') (e1 : x0 = x0') (e2 : h10 = h10') (e3 : x2 = x2') {u : Unit} (_t : tokA = u) : proc_Procs_Start_g1 v12 x0 h10 x2 K = proc_Procs_Start_g1 v12' x0' h10' x2' K := by rw [e0, e1, e2, e3]

/-- (*coxswain/proc.Procs).Start -/
def proc_Procs_Start (x0 x1 x2 : AVal) (h : Heap) (Q : AVal → Heap → Prop) : Prop :=
  rd h (.bin .eql (some (.leaf .ptr)) x0 .nilptr) fun v0 =>
  br v0 (
  Q (.int .i64 1) h) (
  rd h (.nilCheck x0) fun v1 =>
  rd h (.fieldAddr 0 v1) fun v2 =>
  rd h (.load1 v2) fun v3 =>
  rd h (.lookup .int (.agg [(.int .i64 0), (.int .i64 0), (.bool false)]) v3 x1 true) fun v4 =>
  rd h (.extract v4 0) fun v5 =>
  rd h (.extract v4 1) fun v6 =>
  al h (.alloc [(.int .i64 0), (.int .i64 0), (.bool false)]) fun v7 h8 =>
  wr h8 (.storeN 3 v7 v5) fun v9 h10 =>
  rd h10 (.bin .lss none x1 (.int .i64 0)) fun v11 =>
  br v11 (
  Q (.int .i64 2) h10) (
  br v6 (
  Q (.int .i64 5) h10) (
  rd h10 (.bin .neq (some (.leaf .int)) x2 (.int .i64 (-1))) fun v12 =>
  proc_Procs_Start_g1 v12 x0 h10 x2 fun v25 h26 =>
  br v25 (
  Q (.int .i64 4) h26) (
  rd h26 (.nilCheck x0) fun v27 =>
  rd h26 (.fieldAddr 0 v27) fun v28 =>
  rd h26 (.load1 v28) fun v29 =>
  rd h26 (.build [(.int .i64 0), (.int .i64 0), (.bool false)] [(0, 1, x2)]) fun v30 =>
  wr h26 (.mapUpdate .int v29 x1 v30) fun v31 h32 =>
  Q (.int .i64 0) h32))))
theorem proc_Procs_Start_wp {x0 x1 x2 : AVal} {h : Heap} {Q : AVal → Heap → Prop} (H : proc_Procs_Start x0 x1 x2 h Q) : cl n_proc_Procs_Start [x0, x1, x2] h Q :=
  wcl (vs := []) (fn := compFunc tb21 Tryz.f83) (by kernel_rfl) (by kernel_rfl) (by kernel_rfl : proc_Procs_Start x0 x1 x2 h Q = wpG cl [] (compFunc tb21 Tryz.f83) [x0, x1, x2] h Q) H
def proc_Procs_Alive_g1 (v6 : AVal) (h10 : Heap) (v7 : AVal) (K : AVal → Heap → Prop) : Prop :=
  gw v6 true (fun K => rd h10 (.fieldAddr 2 v7) fun v11 => K v11 h10) h10 fun v12 h13 =>
  gw v6 true (fun K => rd h13 (.load1 v12) fun v14 => K v14 h13) h13 fun v15 h16 =>
  gw v6 true (fun K => rd h16 (.un .not v15) fun v17 => K v17 h16) h16 fun v18 h19 =>
  rd h19 (.pick v6 v18 (.bool false)) fun v20 =>
  K v20 h19
theorem proc_Procs_Alive_g1_mono {v6 : AVal} {h10 : Heap} {v7 : AVal} {K L : AVal → Heap → Prop} (hk : ∀ v h, K v h → L v h) (w : proc_Procs_Alive_g1 v6 h10 v7 K) : proc_Procs_Alive_g1 v6 h10 v7 L := (gw_rd_mono fun _ _ => (gw_rd_mono fun _ _ => (gw_rd_mono fun _ _ => (rd_mono fun _ => hk _ _)))) w
@[congr] theorem proc_Procs_Alive_g1_congr {v6 v6' : AVal} {h10 h10' : Heap} {v7 v7' : AVal} {K : AVal → Heap → Prop} (e0 : v6 = v6') (e1 : h10 = h10') (e2 : v7 = v7') {u : Unit} (_t : tokA = u) : proc_Procs_Alive_g1 v6 h10 v7 K = proc_Procs_Alive_g1 v6' h10' v7' K := by rw [e0, e1, e2]

/-- (*coxswain/proc.Procs).Alive -/
def proc_Procs_Alive (x0 x1 : AVal) (h : Heap) (Q : AVal → Heap → Prop) : Prop :=
  rd h (.bin .eql (some (.leaf .ptr)) x0 .nilptr) fun v0 =>
  br v0 (
  Q (.bool false) h) (
  rd h (.nilCheck x0) fun v1 =>
  rd h (.fieldAddr 0 v1) fun v2 =>
  rd h (.load1 v2) fun v3 =>
  rd h (.lookup .int (.agg [(.int .i64 0), (.int .i64 0), (.bool false)]) v3 x1 true) fun v4 =>
  rd h (.extract v4 0) fun v5 =>
  rd h (.extract v4 1) fun v6 =>
  al h (.alloc [(.int .i64 0), (.int .i64 0), (.bool false)]) fun v7 h8 =>
  wr h8 (.storeN 3 v7 v5) fun v9 h10 =>
  proc_Procs_Alive_g1 v6 h10 v7 fun v21 h22 =>
  Q v21 h22)
theorem proc_Procs_Alive_wp {x0 x1 : AVal} {h : Heap} {Q : AVal → Heap → Prop} (H : proc_Procs_Alive x0 x1 h Q) : cl n_proc_Procs_Alive [x0, x1] h Q :=
  wcl (vs := []) (fn := compFunc tb21 Tryz.f124) (by kernel_rfl) (by kernel_rfl) (by kernel_rfl : proc_Procs_Alive x0 x1 h Q = wpG cl [] (compFunc tb21 Tryz.f124) [x0, x1] h Q) H
/-- (*coxswain/fd.Fds).Start -/
def fd_Fds_Start (x0 x1 : AVal) (h : Heap) (Q : AVal → Heap → Prop) : Prop :=
  rd h (.bin .eql (some (.leaf .ptr)) x0 .nilptr) fun v0 =>
  br v0 (
  Q (.int .i64 1) h) (
  rd h (.bin .lss none x1 (.int .i64 0)) fun v1 =>
  br v1 (
  Q (.int .i64 2) h) (
  rd h (.nilCheck x0) fun v2 =>
  rd h (.fieldAddr 2 v2) fun v3 =>
  rd h (.load1 v3) fun v4 =>
  rd h (.lookup .int .nilptr v4 x1 false) fun v5 =>
  rd h (.bin .neq (some (.leaf .ptr)) v5 .nilptr) fun v6 =>
  br v6 (
  Q (.int .i64 5) h) (
  rd h (.nilCheck x0) fun v7 =>
  rd h (.fieldAddr 2 v7) fun v8 =>
  rd h (.load1 v8) fun v9 =>
  rd h (.build [.nilptr, .nilptr, .nilptr, .nilptr, .nilptr, .nilptr, .nilptr, .nilptr] []) fun v10 =>
  al h (.box v10) fun v11 h12 =>
  wr h12 (.mapUpdate .int v9 x1 v11) fun v13 h14 =>
  Q (.int .i64 0) h14)))
theorem fd_Fds_Start_wp {x0 x1 : AVal} {h : Heap} {Q : AVal → Heap → Prop} (H : fd_Fds_Start x0 x1 h Q) : cl n_fd_Fds_Start [x0, x1] h Q :=
  wcl (vs := []) (fn := compFunc tb21 Tryz.f84) (by kernel_rfl) (by kernel_rfl) (by kernel_rfl : fd_Fds_Start x0 x1 h Q = wpG cl [] (compFunc tb21 Tryz.f84) [x0, x1] h Q) H

end Go.AM

open Go Go.AM Go.Proofs
namespace Go.AM
set_option maxRecDepth 100000
set_option linter.unusedVariables false
def prog_within_g1 (v0 : AVal) (x0 : AVal) (h : Heap) (x2 : AVal) (K : AVal → Heap → Prop) : Prop :=
  gw v0 true (fun K => K x0 h) h fun v1 h2 =>
  gw v0 true (fun K => K x2 h2) h2 fun v3 h4 =>
  gw v0 true (fun K => rd h4 (.bin .leq none v1 v3) fun v5 => K v5 h4) h4 fun v6 h7 =>
  rd h7 (.pick v0 v6 (.bool false)) fun v8 =>
  K v8 h7
theorem prog_within_g1_mono {v0 : AVal} {x0 : AVal} {h : Heap} {x2 : AVal} {K L : AVal → Heap → Prop} (hk : ∀ v h, K v h → L v h) (w : prog_within_g1 v0 x0 h x2 K) : prog_within_g1 v0 x0 h x2 L := (gw_mv_mono fun _ _ => (gw_mv_mono fun _ _ => (gw_rd_mono fun _ _ => (rd_mono fun _ => hk _ _)))) w
@[congr] theorem prog_within_g1_congr {v0 v0' : AVal} {x0 x0' : AVal} {h h' : Heap} {x2 x2' : AVal} {K : AVal → Heap → Prop} (e0 : v0 = v0') (e1 : x0 = x0') (e2 : h = h') (e3 : x2 = x2') {u : Unit} (_t : tokA = u) : prog_within_g1 v0 x0 h x2 K = prog_within_g1 v0' x0' h' x2' K := by rw [e0, e1, e2, e3]

/-- coxswain/prog.within -/
def prog_within (x0 x1 x2 : AVal) (h : Heap) (Q : AVal → Heap → Prop) : Prop :=
  rd h (.bin .geq none x0 x1) fun v0 =>
  prog_within_g1 v0 x0 h x2 fun v9 h10 =>
  Q v9 h10
theorem prog_within_wp {x0 x1 x2 : AVal} {h : Heap} {Q : AVal → Heap → Prop} (H : prog_within x0 x1 x2 h Q) : cl n_prog_within [x0, x1, x2] h Q :=
  wcl (vs := []) (fn := compFunc tb21 Tryz.f215) (by kernel_rfl) (by kernel_rfl) (by kernel_rfl : prog_within x0 x1 x2 h Q = wpG cl [] (compFunc tb21 Tryz.f215) [x0, x1, x2] h Q) H
/-- coxswain/prog.path -/
def prog_path (x0 : AVal) (h : Heap) (Q : AVal → Heap → Prop) : Prop :=
  rd h (.len .str x0) fun v0 =>
  rd h (.bin .leq none v0 (.int .i64 100)) fun v1 =>
  Q v1 h
theorem prog_path_wp {x0 : AVal} {h : Heap} {Q : AVal → Heap → Prop} (H : prog_path x0 h Q) : cl n_prog_path [x0] h Q :=
  wcl (vs := []) (fn := compFunc tb21 Tryz.f305) (by kernel_rfl) (by kernel_rfl) (by kernel_rfl : prog_path x0 h Q = wpG cl [] (compFunc tb21 Tryz.f305) [x0] h Q) H
/-- coxswain/prog.bare -/
def prog_bare (x0 : AVal) (h : Heap) (Q : AVal → Heap → Prop) : Prop :=
  al h (.box x0) fun v0 h1 =>
  al h1 (.alloc [(.int .i64 0), (.int .i64 0), (.int .i64 0), (.str []), (.str [])]) fun v2 h3 =>
  rd h3 (.build [(.int .i64 0), (.int .i64 0), (.int .i64 0), (.str []), (.str [])] []) fun v4 =>
  wr h3 (.storeN 5 v2 v4) fun v5 h6 =>
  rd h6 (.loadN 5 v2) fun v7 =>
  Q (.tuple [v7, (.bool true)]) h6
theorem prog_bare_wp {x0 : AVal} {h : Heap} {Q : AVal → Heap → Prop} (H : prog_bare x0 h Q) : cl n_prog_bare [x0] h Q :=
  wcl (vs := []) (fn := compFunc tb21 Tryz.f272) (by kernel_rfl) (by kernel_rfl) (by kernel_rfl : prog_bare x0 h Q = wpG cl [] (compFunc tb21 Tryz.f272) [x0] h Q) H
/-- coxswain/prog.one -/
def prog_one (x0 : AVal) (h : Heap) (Q : AVal → Heap → Prop) : Prop :=
  al h (.box x0) fun v0 h1 =>
  al h1 (.alloc [(.int .i64 0), (.int .i64 0), (.int .i64 0), (.str []), (.str [])]) fun v2 h3 =>
  rd h3 (.fieldAddr 3 v0) fun v4 =>
  rd h3 (.load1 v4) fun v5 =>
  rd h3 (.build [(.int .i64 0), (.int .i64 0), (.int .i64 0), (.str []), (.str [])] [(3, 1, v5)]) fun v6 =>
  rd h3 (.fieldAddr 3 v0) fun v7 =>
  rd h3 (.load1 v7) fun v8 =>
  cl n_prog_path [v8] h3 fun v9 h10 =>
  wr h10 (.storeN 5 v2 v6) fun v11 h12 =>
  ck [h3, h10, h12] (⟨(.load1 v4), v5, [1]⟩ :: []) (rd h12 (.loadN 5 v2) fun v13 =>
  Q (.tuple [v13, v9]) h12)
theorem prog_one_wp {x0 : AVal} {h : Heap} {Q : AVal → Heap → Prop} (H : prog_one x0 h Q) : cl n_prog_one [x0] h Q :=
  wcl (vs := []) (fn := compFunc tb21 Tryz.f271) (by kernel_rfl) (by kernel_rfl) (by kernel_rfl : prog_one x0 h Q = wpG cl [] (compFunc tb21 Tryz.f271) [x0] h Q) H
/-- coxswain/prog.two -/
def prog_two (x0 : AVal) (h : Heap) (Q : AVal → Heap → Prop) : Prop :=
  al h (.box x0) fun v0 h1 =>
  al h1 (.alloc [(.int .i64 0), (.int .i64 0), (.int .i64 0), (.str []), (.str [])]) fun v2 h3 =>
  rd h3 (.fieldAddr 3 v0) fun v4 =>
  rd h3 (.load1 v4) fun v5 =>
  rd h3 (.fieldAddr 4 v0) fun v6 =>
  rd h3 (.load1 v6) fun v7 =>
  rd h3 (.build [(.int .i64 0), (.int .i64 0), (.int .i64 0), (.str []), (.str [])] [(3, 1, v5), (4, 1, v7)]) fun v8 =>
  rd h3 (.fieldAddr 3 v0) fun v9 =>
  rd h3 (.load1 v9) fun v10 =>
  cl n_prog_path [v10] h3 fun v11 h12 =>
  gp v11 true (fun K => rd h12 (.fieldAddr 4 v0) fun v13 => K v13 h12 (⟨(.load1 v6), v7, [1, 2]⟩ :: (⟨(.load1 v4), v5, [1, 2]⟩ :: []))) h12 (⟨(.load1 v6), v7, [1, 2]⟩ :: (⟨(.load1 v4), v5, [1, 2]⟩ :: [])) fun v14 h15 p16 =>
  gp v11 true (fun K => rd h15 (.load1 v14) fun v17 => K v17 h15 p16) h15 p16 fun v18 h19 p20 =>
  gp v11 true (fun K => cl n_prog_path [v18] h19 fun v21 h22 => K v21 h22 p20) h19 p20 fun v23 h24 p25 =>
  rd h24 (.pick v11 v23 (.bool false)) fun v26 =>
  wr h24 (.storeN 5 v2 v8) fun v27 h28 =>
  ck [h3, h19, h24, h28] p25 (rd h28 (.loadN 5 v2) fun v29 =>
  Q (.tuple [v29, v26]) h28)
theorem prog_two_wp {x0 : AVal} {h : Heap} {Q : AVal → Heap → Prop} (H : prog_two x0 h Q) : cl n_prog_two [x0] h Q :=
  wcl (vs := []) (fn := compFunc tb21 Tryz.f270) (by kernel_rfl) (by kernel_rfl) (by kernel_rfl : prog_two x0 h Q = wpG cl [] (compFunc tb21 Tryz.f270) [x0] h Q) H
/-- coxswain/prog.open -/
def prog_open (x0 : AVal) (h : Heap) (Q : AVal → Heap → Prop) : Prop :=
  al h (.box x0) fun v0 h1 =>
  al h1 (.alloc [(.int .i64 0), (.int .i64 0), (.int .i64 0), (.str []), (.str [])]) fun v2 h3 =>
  rd h3 (.fieldAddr 3 v0) fun v4 =>
  rd h3 (.load1 v4) fun v5 =>
  rd h3 (.fieldAddr 1 v0) fun v6 =>
  rd h3 (.load1 v6) fun v7 =>
  rd h3 (.build [(.int .i64 0), (.int .i64 0), (.int .i64 0), (.str []), (.str [])] [(3, 1, v5), (1, 1, v7)]) fun v8 =>
  rd h3 (.fieldAddr 3 v0) fun v9 =>
  rd h3 (.load1 v9) fun v10 =>
  cl n_prog_path [v10] h3 fun v11 h12 =>
  gp v11 true (fun K => rd h12 (.fieldAddr 1 v0) fun v13 => K v13 h12 (⟨(.load1 v6), v7, [1, 2]⟩ :: (⟨(.load1 v4), v5, [1, 2]⟩ :: []))) h12 (⟨(.load1 v6), v7, [1, 2]⟩ :: (⟨(.load1 v4), v5, [1, 2]⟩ :: [])) fun v14 h15 p16 =>
  gp v11 true (fun K => rd h15 (.load1 v14) fun v17 => K v17 h15 p16) h15 p16 fun v18 h19 p20 =>
  gp v11 true (fun K => cl n_prog_within [v18, (.int .i64 0), (.int .i64 7)] h19 fun v21 h22 => K v21 h22 p20) h19 p20 fun v23 h24 p25 =>
  rd h24 (.pick v11 v23 (.bool false)) fun v26 =>
  wr h24 (.storeN 5 v2 v8) fun v27 h28 =>
  ck [h3, h19, h24, h28] p25 (rd h28 (.loadN 5 v2) fun v29 =>
  Q (.tuple [v29, v26]) h28)
theorem prog_open_wp {x0 : AVal} {h : Heap} {Q : AVal → Heap → Prop} (H : prog_open x0 h Q) : cl n_prog_open [x0] h Q :=
  wcl (vs := []) (fn := compFunc tb21 Tryz.f266) (by kernel_rfl) (by kernel_rfl) (by kernel_rfl : prog_open x0 h Q = wpG cl [] (compFunc tb21 Tryz.f266) [x0] h Q) H
/-- coxswain/prog.number -/
def prog_number (x0 : AVal) (h : Heap) (Q : AVal → Heap → Prop) : Prop :=
  al h (.box x0) fun v0 h1 =>
  al h1 (.alloc [(.int .i64 0), (.int .i64 0), (.int .i64 0), (.str []), (.str [])]) fun v2 h3 =>
  rd h3 (.fieldAddr 1 v0) fun v4 =>
  rd h3 (.load1 v4) fun v5 =>
  rd h3 (.build [(.int .i64 0), (.int .i64 0), (.int .i64 0), (.str []), (.str [])] [(1, 1, v5)]) fun v6 =>
  rd h3 (.fieldAddr 1 v0) fun v7 =>
  rd h3 (.load1 v7) fun v8 =>
  cl n_prog_within [v8, (.int .i64 0), (.int .i64 7)] h3 fun v9 h10 =>
  wr h10 (.storeN 5 v2 v6) fun v11 h12 =>
  ck [h3, h10, h12] (⟨(.load1 v4), v5, [1]⟩ :: []) (rd h12 (.loadN 5 v2) fun v13 =>
  Q (.tuple [v13, v9]) h12)
theorem prog_number_wp {x0 : AVal} {h : Heap} {Q : AVal → Heap → Prop} (H : prog_number x0 h Q) : cl n_prog_number [x0] h Q :=
  wcl (vs := []) (fn := compFunc tb21 Tryz.f267) (by kernel_rfl) (by kernel_rfl) (by kernel_rfl : prog_number x0 h Q = wpG cl [] (compFunc tb21 Tryz.f267) [x0] h Q) H
/-- coxswain/prog.bytes -/
def prog_bytes (x0 : AVal) (h : Heap) (Q : AVal → Heap → Prop) : Prop :=
  al h (.box x0) fun v0 h1 =>
  al h1 (.alloc [(.int .i64 0), (.int .i64 0), (.int .i64 0), (.str []), (.str [])]) fun v2 h3 =>
  rd h3 (.fieldAddr 1 v0) fun v4 =>
  rd h3 (.load1 v4) fun v5 =>
  rd h3 (.fieldAddr 2 v0) fun v6 =>
  rd h3 (.load1 v6) fun v7 =>
  rd h3 (.build [(.int .i64 0), (.int .i64 0), (.int .i64 0), (.str []), (.str [])] [(1, 1, v5), (2, 1, v7)]) fun v8 =>
  rd h3 (.fieldAddr 1 v0) fun v9 =>
  rd h3 (.load1 v9) fun v10 =>
  cl n_prog_within [v10, (.int .i64 0), (.int .i64 7)] h3 fun v11 h12 =>
  gp v11 true (fun K => rd h12 (.fieldAddr 2 v0) fun v13 => K v13 h12 (⟨(.load1 v6), v7, [1, 2]⟩ :: (⟨(.load1 v4), v5, [1, 2]⟩ :: []))) h12 (⟨(.load1 v6), v7, [1, 2]⟩ :: (⟨(.load1 v4), v5, [1, 2]⟩ :: [])) fun v14 h15 p16 =>
  gp v11 true (fun K => rd h15 (.load1 v14) fun v17 => K v17 h15 p16) h15 p16 fun v18 h19 p20 =>
  gp v11 true (fun K => cl n_prog_within [v18, (.int .i64 0), (.int .i64 512)] h19 fun v21 h22 => K v21 h22 p20) h19 p20 fun v23 h24 p25 =>
  rd h24 (.pick v11 v23 (.bool false)) fun v26 =>
  wr h24 (.storeN 5 v2 v8) fun v27 h28 =>
  ck [h3, h19, h24, h28] p25 (rd h28 (.loadN 5 v2) fun v29 =>
  Q (.tuple [v29, v26]) h28)
theorem prog_bytes_wp {x0 : AVal} {h : Heap} {Q : AVal → Heap → Prop} (H : prog_bytes x0 h Q) : cl n_prog_bytes [x0] h Q :=
  wcl (vs := []) (fn := compFunc tb21 Tryz.f268) (by kernel_rfl) (by kernel_rfl) (by kernel_rfl : prog_bytes x0 h Q = wpG cl [] (compFunc tb21 Tryz.f268) [x0] h Q) H
def prog_write_g1 (v11 : AVal) (h12 : Heap) (v0 : AVal) (v6 : AVal) (v7 : AVal) (v4 : AVal) (v5 : AVal) (K : AVal → Heap → List Past → Prop) : Prop :=
  gp v11 true (fun K => rd h12 (.fieldAddr 3 v0) fun v13 => K v13 h12 (⟨(.load1 v6), v7, [1]⟩ :: (⟨(.load1 v4), v5, [1]⟩ :: []))) h12 (⟨(.load1 v6), v7, [1]⟩ :: (⟨(.load1 v4), v5, [1]⟩ :: [])) fun v14 h15 p16 =>
  gp v11 true (fun K => rd h15 (.load1 v14) fun v17 => K v17 h15 (⟨(.load1 v14), v17, [2]⟩ :: p16)) h15 p16 fun v18 h19 p20 =>
  gp v11 true (fun K => rd h19 (.len .str v18) fun v21 => K v21 h19 p20) h19 p20 fun v22 h23 p24 =>
  gp v11 true (fun K => rd h23 (.bin .leq none v22 (.int .i64 512)) fun v25 => K v25 h23 (⟨(.bin .leq none v22 (.int .i64 512)), v25, [2]⟩ :: p24)) h23 p24 fun v26 h27 p28 =>
  rd h27 (.pick v11 v26 (.bool false)) fun v29 =>
  K v29 h27 p28
theorem prog_write_g1_mono {v11 : AVal} {h12 : Heap} {v0 : AVal} {v6 : AVal} {v7 : AVal} {v4 : AVal} {v5 : AVal} {K L : AVal → Heap → List Past → Prop} (hk : ∀ v h p, K v h p → L v h p) (w : prog_write_g1 v11 h12 v0 v6 v7 v4 v5 K) : prog_write_g1 v11 h12 v0 v6 v7 v4 v5 L := (gp_rd_mono fun _ _ _ => (gp_rd_mono fun _ _ _ => (gp_rd_mono fun _ _ _ => (gp_rd_mono fun _ _ _ => (rd_mono fun _ => hk _ _ _))))) w
@[congr] theorem prog_write_g1_congr {v11 v11' : AVal} {h12 h12' : Heap} {v0 v0' : AVal} {v6 v6' : AVal} {v7 v7' : AVal} {v4 v4' : AVal} {v5 v5' : AVal} {K : AVal → Heap → List Past → Prop} (e0 : v11 = v11') (e1 : h12 = h12') (e2 : v0 = v0') (e3 : v6 = v6') (e4 : v7 = v7') (e5 : v4 = v4') (e6 : v5 = v5') {u : Unit} (_t : tokA = u) : prog_write_g1 v11 h12 v0 v6 v7 v4 v5 K = prog_write_g1 v11' h12' v0' v6' v7' v4' v5' K := by rw [e0, e1, e2, e3, e4, e5, e6]

/-- coxswain/prog.write -/
def prog_write (x0 : AVal) (h : Heap) (Q : AVal → Heap → Prop) : Prop :=
  al h (.box x0) fun v0 h1 =>
  al h1 (.alloc [(.int .i64 0), (.int .i64 0), (.int .i64 0), (.str []), (.str [])]) fun v2 h3 =>
  rd h3 (.fieldAddr 1 v0) fun v4 =>
  rd h3 (.load1 v4) fun v5 =>
  rd h3 (.fieldAddr 3 v0) fun v6 =>
  rd h3 (.load1 v6) fun v7 =>
  rd h3 (.build [(.int .i64 0), (.int .i64 0), (.int .i64 0), (.str []), (.str [])] [(1, 1, v5), (3, 1, v7)]) fun v8 =>
  rd h3 (.fieldAddr 1 v0) fun v9 =>
  rd h3 (.load1 v9) fun v10 =>
  cl n_prog_within [v10, (.int .i64 0), (.int .i64 7)] h3 fun v11 h12 =>
  prog_write_g1 v11 h12 v0 v6 v7 v4 v5 fun v30 h31 p32 =>
  wr h31 (.storeN 5 v2 v8) fun v33 h34 =>
  ck [h3, h31, h34] p32 (rd h34 (.loadN 5 v2) fun v35 =>
  Q (.tuple [v35, v30]) h34)
theorem prog_write_wp {x0 : AVal} {h : Heap} {Q : AVal → Heap → Prop} (H : prog_write x0 h Q) : cl n_prog_write [x0] h Q :=
  wcl (vs := []) (fn := compFunc tb21 Tryz.f269) (by kernel_rfl) (by kernel_rfl) (by kernel_rfl : prog_write x0 h Q = wpG cl [] (compFunc tb21 Tryz.f269) [x0] h Q) H
/-- coxswain/prog.fork -/
def prog_fork (x0 : AVal) (h : Heap) (Q : AVal → Heap → Prop) : Prop :=
  al h (.box x0) fun v0 h1 =>
  al h1 (.alloc [(.int .i64 0), (.int .i64 0), (.int .i64 0), (.str []), (.str [])]) fun v2 h3 =>
  rd h3 (.fieldAddr 1 v0) fun v4 =>
  rd h3 (.load1 v4) fun v5 =>
  rd h3 (.build [(.int .i64 0), (.int .i64 0), (.int .i64 0), (.str []), (.str [])] [(1, 1, v5)]) fun v6 =>
  rd h3 (.fieldAddr 1 v0) fun v7 =>
  rd h3 (.load1 v7) fun v8 =>
  cl n_prog_within [v8, (.int .i64 0), (.int .i64 39)] h3 fun v9 h10 =>
  wr h10 (.storeN 5 v2 v6) fun v11 h12 =>
  ck [h3, h10, h12] (⟨(.load1 v4), v5, [1]⟩ :: []) (rd h12 (.loadN 5 v2) fun v13 =>
  Q (.tuple [v13, v9]) h12)
theorem prog_fork_wp {x0 : AVal} {h : Heap} {Q : AVal → Heap → Prop} (H : prog_fork x0 h Q) : cl n_prog_fork [x0] h Q :=
  wcl (vs := []) (fn := compFunc tb21 Tryz.f273) (by kernel_rfl) (by kernel_rfl) (by kernel_rfl : prog_fork x0 h Q = wpG cl [] (compFunc tb21 Tryz.f273) [x0] h Q) H
/-- coxswain/prog.exit -/
def prog_exit (x0 : AVal) (h : Heap) (Q : AVal → Heap → Prop) : Prop :=
  al h (.box x0) fun v0 h1 =>
  al h1 (.alloc [(.int .i64 0), (.int .i64 0), (.int .i64 0), (.str []), (.str [])]) fun v2 h3 =>
  rd h3 (.fieldAddr 1 v0) fun v4 =>
  rd h3 (.load1 v4) fun v5 =>
  rd h3 (.build [(.int .i64 0), (.int .i64 0), (.int .i64 0), (.str []), (.str [])] [(1, 1, v5)]) fun v6 =>
  rd h3 (.fieldAddr 1 v0) fun v7 =>
  rd h3 (.load1 v7) fun v8 =>
  cl n_prog_within [v8, (.int .i64 0), (.int .i64 255)] h3 fun v9 h10 =>
  wr h10 (.storeN 5 v2 v6) fun v11 h12 =>
  ck [h3, h10, h12] (⟨(.load1 v4), v5, [1]⟩ :: []) (rd h12 (.loadN 5 v2) fun v13 =>
  Q (.tuple [v13, v9]) h12)
theorem prog_exit_wp {x0 : AVal} {h : Heap} {Q : AVal → Heap → Prop} (H : prog_exit x0 h Q) : cl n_prog_exit [x0] h Q :=
  wcl (vs := []) (fn := compFunc tb21 Tryz.f274) (by kernel_rfl) (by kernel_rfl) (by kernel_rfl : prog_exit x0 h Q = wpG cl [] (compFunc tb21 Tryz.f274) [x0] h Q) H
/-- coxswain/prog.call -/
def prog_call (x0 : AVal) (h : Heap) (Q : AVal → Heap → Prop) : Prop :=
  rd h (.bin .eql (some (.leaf .int)) x0 (.int .i64 1)) fun v0 =>
  br v0 (
  Q (.func n_prog_open [] []) h) (
  rd h (.bin .eql (some (.leaf .int)) x0 (.int .i64 2)) fun v1 =>
  let J54 := fun (x4 : AVal) (h2 : Heap) =>
  br x4 (
  Q (.func n_prog_number [] []) h2) (
  rd h2 (.bin .eql (some (.leaf .int)) x0 (.int .i64 3)) fun v5 =>
  let J52 := fun (x8 : AVal) (h6 : Heap) =>
  br x8 (
  Q (.func n_prog_bytes [] []) h6) (
  rd h6 (.bin .eql (some (.leaf .int)) x0 (.int .i64 4)) fun v9 =>
  br v9 (
  Q (.func n_prog_write [] []) h6) (
  rd h6 (.bin .eql (some (.leaf .int)) x0 (.int .i64 7)) fun v10 =>
  br v10 (
  Q (.func n_prog_two [] []) h6) (
  rd h6 (.bin .eql (some (.leaf .int)) x0 (.int .i64 8)) fun v11 =>
  let J32 := fun (x17 : AVal) (h12 : Heap) =>
  br x17 (
  Q (.func n_prog_one [] []) h12) (
  rd h12 (.bin .eql (some (.leaf .int)) x0 (.int .i64 11)) fun v18 =>
  let J25 := fun (x22 : AVal) (h19 : Heap) =>
  br x22 (
  Q (.func n_prog_bare [] []) h19) (
  rd h19 (.bin .eql (some (.leaf .int)) x0 (.int .i64 14)) fun v23 =>
  br v23 (
  Q (.func n_prog_fork [] []) h19) (
  rd h19 (.bin .eql (some (.leaf .int)) x0 (.int .i64 15)) fun v24 =>
  br v24 (
  Q (.func n_prog_exit [] []) h19) (
  Q .nilfunc h19)))
br v18 (
  J25 v18 h12) (
  rd h12 (.bin .eql (some (.leaf .int)) x0 (.int .i64 16)) fun v26 =>
  br v26 (
  J25 v26 h12) (
  rd h12 (.bin .eql (some (.leaf .int)) x0 (.int .i64 17)) fun v31 =>
  J25 v31 h12)))
br v11 (
  J32 v11 h6) (
  rd h6 (.bin .eql (some (.leaf .int)) x0 (.int .i64 9)) fun v33 =>
  br v33 (
  J32 v33 h6) (
  rd h6 (.bin .eql (some (.leaf .int)) x0 (.int .i64 10)) fun v40 =>
  br v40 (
  J32 v40 h6) (
  rd h6 (.bin .eql (some (.leaf .int)) x0 (.int .i64 12)) fun v46 =>
  br v46 (
  J32 v46 h6) (
  rd h6 (.bin .eql (some (.leaf .int)) x0 (.int .i64 13)) fun v51 =>
  J32 v51 h6)))))))
br v5 (
  J52 v5 h2) (
  rd h2 (.bin .eql (some (.leaf .int)) x0 (.int .i64 5)) fun v53 =>
  J52 v53 h2))
br v1 (
  J54 v1 h) (
  rd h (.bin .eql (some (.leaf .int)) x0 (.int .i64 6)) fun v55 =>
  J54 v55 h))
theorem prog_call_wp {x0 : AVal} {h : Heap} {Q : AVal → Heap → Prop} (H : prog_call x0 h Q) : cl n_prog_call [x0] h Q :=
  wcl (vs := []) (fn := compFunc tb21 Tryz.f246) (by kernel_rfl) (by kernel_rfl) (by kernel_rfl : prog_call x0 h Q = wpG cl [] (compFunc tb21 Tryz.f246) [x0] h Q) H
def prog_MayCall_g1 (v11 : AVal) (h20 : Heap) (v12 : AVal) (v0 : AVal) (K : AVal → Heap → Prop) : Prop :=
  gw v11 true (fun K => rd h20 (.loadN 5 v12) fun v21 => K v21 h20) h20 fun v22 h23 =>
  gw v11 true (fun K => rd h23 (.loadN 5 v0) fun v24 => K v24 h23) h23 fun v25 h26 =>
  gw v11 true (fun K => rd h26 (.bin .eql (some (.agg 5 [(0, .int), (1, .int), (2, .int), (3, .str), (4, .str)])) v22 v25) fun v27 => K v27 h26) h26 fun v28 h29 =>
  rd h29 (.pick v11 v28 (.bool false)) fun v30 =>
  K v30 h29
theorem prog_MayCall_g1_mono {v11 : AVal} {h20 : Heap} {v12 : AVal} {v0 : AVal} {K L : AVal → Heap → Prop} (hk : ∀ v h, K v h → L v h) (w : prog_MayCall_g1 v11 h20 v12 v0 K) : prog_MayCall_g1 v11 h20 v12 v0 L := (gw_rd_mono fun _ _ => (gw_rd_mono fun _ _ => (gw_rd_mono fun _ _ => (rd_mono fun _ => hk _ _)))) w
@[congr] theorem prog_MayCall_g1_congr {v11 v11' : AVal} {h20 h20' : Heap} {v12 v12' : AVal} {v0 v0' : AVal} {K : AVal → Heap → Prop} (e0 : v11 = v11') (e1 : h20 = h20') (e2 : v12 = v12') (e3 : v0 = v0') {u : Unit} (_t : tokA = u) : prog_MayCall_g1 v11 h20 v12 v0 K = prog_MayCall_g1 v11' h20' v12' v0' K := by rw [e0, e1, e2, e3]

/-- coxswain/prog.MayCall -/
def prog_MayCall (x0 : AVal) (h : Heap) (Q : AVal → Heap → Prop) : Prop :=
  al h (.box x0) fun v0 h1 =>
  rd h1 (.fieldAddr 0 v0) fun v2 =>
  rd h1 (.load1 v2) fun v3 =>
  cl n_prog_call [v3] h1 fun v4 h5 =>
  rd h5 (.bin .eql (some .func) v4 .nilfunc) fun v6 =>
  br v6 (
  Q (.bool false) h5) (
  rd h5 (.loadN 5 v0) fun v7 =>
  cv cl v4 [v7] h5 fun v8 h9 =>
  rd h9 (.extract v8 0) fun v10 =>
  rd h9 (.extract v8 1) fun v11 =>
  al h9 (.alloc [(.int .i64 0), (.int .i64 0), (.int .i64 0), (.str []), (.str [])]) fun v12 h13 =>
  wr h13 (.storeN 5 v12 v10) fun v14 h15 =>
  rd h15 (.fieldAddr 0 v0) fun v16 =>
  rd h15 (.load1 v16) fun v17 =>
  rd h15 (.fieldAddr 0 v12) fun v18 =>
  wr h15 (.storeN 1 v18 v17) fun v19 h20 =>
  prog_MayCall_g1 v11 h20 v12 v0 fun v31 h32 =>
  Q v31 h32)
theorem prog_MayCall_wp {x0 : AVal} {h : Heap} {Q : AVal → Heap → Prop} (H : prog_MayCall x0 h Q) : cl n_prog_MayCall [x0] h Q :=
  wcl (vs := []) (fn := compFunc tb21 Tryz.f216) (by kernel_rfl) (by kernel_rfl) (by kernel_rfl : prog_MayCall x0 h Q = wpG cl [] (compFunc tb21 Tryz.f216) [x0] h Q) H
/-- coxswain/prog.none -/
def prog_none (x0 : AVal) (h : Heap) (Q : AVal → Heap → Prop) : Prop :=
  al h (.box x0) fun v0 h1 =>
  al h1 (.alloc [(.int .i64 0), (.int .i64 0), (.int .i64 0), (.int .i64 0), (.int .i64 0), (.int .i64 0), (.int .i64 0), (.str []), (.str [])]) fun v2 h3 =>
  rd h3 (.build [(.int .i64 0), (.int .i64 0), (.int .i64 0), (.int .i64 0), (.int .i64 0), (.int .i64 0), (.int .i64 0), (.str []), (.str [])] []) fun v4 =>
  wr h3 (.storeN 9 v2 v4) fun v5 h6 =>
  rd h6 (.loadN 9 v2) fun v7 =>
  Q (.tuple [v7, (.bool true)]) h6
theorem prog_none_wp {x0 : AVal} {h : Heap} {Q : AVal → Heap → Prop} (H : prog_none x0 h Q) : cl n_prog_none [x0] h Q :=
  wcl (vs := []) (fn := compFunc tb21 Tryz.f162) (by kernel_rfl) (by kernel_rfl) (by kernel_rfl : prog_none x0 h Q = wpG cl [] (compFunc tb21 Tryz.f162) [x0] h Q) H
/-- coxswain/prog.ticks -/
def prog_ticks (x0 : AVal) (h : Heap) (Q : AVal → Heap → Prop) : Prop :=
  al h (.box x0) fun v0 h1 =>
  al h1 (.alloc [(.int .i64 0), (.int .i64 0), (.int .i64 0), (.int .i64 0), (.int .i64 0), (.int .i64 0), (.int .i64 0), (.str []), (.str [])]) fun v2 h3 =>
  rd h3 (.fieldAddr 1 v0) fun v4 =>
  rd h3 (.load1 v4) fun v5 =>
  rd h3 (.build [(.int .i64 0), (.int .i64 0), (.int .i64 0), (.int .i64 0), (.int .i64 0), (.int .i64 0), (.int .i64 0), (.str []), (.str [])] [(1, 1, v5)]) fun v6 =>
  rd h3 (.fieldAddr 1 v0) fun v7 =>
  rd h3 (.load1 v7) fun v8 =>
  cl n_prog_within [v8, (.int .i64 1), (.int .i64 1000)] h3 fun v9 h10 =>
  wr h10 (.storeN 9 v2 v6) fun v11 h12 =>
  ck [h3, h10, h12] (⟨(.load1 v4), v5, [1]⟩ :: []) (rd h12 (.loadN 9 v2) fun v13 =>
  Q (.tuple [v13, v9]) h12)
theorem prog_ticks_wp {x0 : AVal} {h : Heap} {Q : AVal → Heap → Prop} (H : prog_ticks x0 h Q) : cl n_prog_ticks [x0] h Q :=
  wcl (vs := []) (fn := compFunc tb21 Tryz.f163) (by kernel_rfl) (by kernel_rfl) (by kernel_rfl : prog_ticks x0 h Q = wpG cl [] (compFunc tb21 Tryz.f163) [x0] h Q) H
/-- coxswain/prog.mutex -/
def prog_mutex (x0 : AVal) (h : Heap) (Q : AVal → Heap → Prop) : Prop :=
  al h (.box x0) fun v0 h1 =>
  al h1 (.alloc [(.int .i64 0), (.int .i64 0), (.int .i64 0), (.int .i64 0), (.int .i64 0), (.int .i64 0), (.int .i64 0), (.str []), (.str [])]) fun v2 h3 =>
  rd h3 (.fieldAddr 1 v0) fun v4 =>
  rd h3 (.load1 v4) fun v5 =>
  rd h3 (.build [(.int .i64 0), (.int .i64 0), (.int .i64 0), (.int .i64 0), (.int .i64 0), (.int .i64 0), (.int .i64 0), (.str []), (.str [])] [(1, 1, v5)]) fun v6 =>
  rd h3 (.fieldAddr 1 v0) fun v7 =>
  rd h3 (.load1 v7) fun v8 =>
  cl n_prog_within [v8, (.int .i64 0), (.int .i64 5)] h3 fun v9 h10 =>
  wr h10 (.storeN 9 v2 v6) fun v11 h12 =>
  ck [h3, h10, h12] (⟨(.load1 v4), v5, [1]⟩ :: []) (rd h12 (.loadN 9 v2) fun v13 =>
  Q (.tuple [v13, v9]) h12)
theorem prog_mutex_wp {x0 : AVal} {h : Heap} {Q : AVal → Heap → Prop} (H : prog_mutex x0 h Q) : cl n_prog_mutex [x0] h Q :=
  wcl (vs := []) (fn := compFunc tb21 Tryz.f164) (by kernel_rfl) (by kernel_rfl) (by kernel_rfl : prog_mutex x0 h Q = wpG cl [] (compFunc tb21 Tryz.f164) [x0] h Q) H
/-- coxswain/prog.jump -/
def prog_jump (x0 : AVal) (h : Heap) (Q : AVal → Heap → Prop) : Prop :=
  al h (.box x0) fun v0 h1 =>
  al h1 (.alloc [(.int .i64 0), (.int .i64 0), (.int .i64 0), (.int .i64 0), (.int .i64 0), (.int .i64 0), (.int .i64 0), (.str []), (.str [])]) fun v2 h3 =>
  rd h3 (.fieldAddr 1 v0) fun v4 =>
  rd h3 (.load1 v4) fun v5 =>
  rd h3 (.build [(.int .i64 0), (.int .i64 0), (.int .i64 0), (.int .i64 0), (.int .i64 0), (.int .i64 0), (.int .i64 0), (.str []), (.str [])] [(1, 1, v5)]) fun v6 =>
  rd h3 (.fieldAddr 1 v0) fun v7 =>
  rd h3 (.load1 v7) fun v8 =>
  cl n_prog_within [v8, (.int .i64 0), (.int .i64 39)] h3 fun v9 h10 =>
  wr h10 (.storeN 9 v2 v6) fun v11 h12 =>
  ck [h3, h10, h12] (⟨(.load1 v4), v5, [1]⟩ :: []) (rd h12 (.loadN 9 v2) fun v13 =>
  Q (.tuple [v13, v9]) h12)
theorem prog_jump_wp {x0 : AVal} {h : Heap} {Q : AVal → Heap → Prop} (H : prog_jump x0 h Q) : cl n_prog_jump [x0] h Q :=
  wcl (vs := []) (fn := compFunc tb21 Tryz.f165) (by kernel_rfl) (by kernel_rfl) (by kernel_rfl : prog_jump x0 h Q = wpG cl [] (compFunc tb21 Tryz.f165) [x0] h Q) H
def prog_wait_g1 (v6 : AVal) (h7 : Heap) (v0 : AVal) (K : AVal → Heap → Prop) : Prop :=
  gw v6 true (fun K => rd h7 (.fieldAddr 2 v0) fun v8 => K v8 h7) h7 fun v9 h10 =>
  gw v6 true (fun K => rd h10 (.load1 v9) fun v11 => K v11 h10) h10 fun v12 h13 =>
  gw v6 true (fun K => cl n_prog_within [v12, (.int .i64 0), (.int .i64 5)] h13 fun v14 h15 => K v14 h15) h13 fun v16 h17 =>
  rd h17 (.pick v6 v16 (.bool false)) fun v18 =>
  K v18 h17
theorem prog_wait_g1_mono {v6 : AVal} {h7 : Heap} {v0 : AVal} {K L : AVal → Heap → Prop} (hk : ∀ v h, K v h → L v h) (w : prog_wait_g1 v6 h7 v0 K) : prog_wait_g1 v6 h7 v0 L := (gw_rd_mono fun _ _ => (gw_rd_mono fun _ _ => (gw_cl_mono fun _ _ => (rd_mono fun _ => hk _ _)))) w
@[congr] theorem prog_wait_g1_congr {v6 v6' : AVal} {h7 h7' : Heap} {v0 v0' : AVal} {K : AVal → Heap → Prop} (e0 : v6 = v6') (e1 : h7 = h7') (e2 : v0 = v0') {u : Unit} (_t : tokA = u) : prog_wait_g1 v6 h7 v0 K = prog_wait_g1 v6' h7' v0' K := by rw [e0, e1, e2]

def prog_wait_g2 (v19 : AVal) (h20 : Heap) (v0 : AVal) (K : AVal → Heap → Prop) : Prop :=
  gw v19 true (fun K => rd h20 (.fieldAddr 3 v0) fun v21 => K v21 h20) h20 fun v22 h23 =>
  gw v19 true (fun K => rd h23 (.load1 v22) fun v24 => K v24 h23) h23 fun v25 h26 =>
  gw v19 true (fun K => cl n_prog_within [v25, (.int .i64 0), (.int .i64 1000)] h26 fun v27 h28 => K v27 h28) h26 fun v29 h30 =>
  rd h30 (.pick v19 v29 (.bool false)) fun v31 =>
  K v31 h30
theorem prog_wait_g2_mono {v19 : AVal} {h20 : Heap} {v0 : AVal} {K L : AVal → Heap → Prop} (hk : ∀ v h, K v h → L v h) (w : prog_wait_g2 v19 h20 v0 K) : prog_wait_g2 v19 h20 v0 L := (gw_rd_mono fun _ _ => (gw_rd_mono fun _ _ => (gw_cl_mono fun _ _ => (rd_mono fun _ => hk _ _)))) w
@[congr] theorem prog_wait_g2_congr {v19 v19' : AVal} {h20 h20' : Heap} {v0 v0' : AVal} {K : AVal → Heap → Prop} (e0 : v19 = v19') (e1 : h20 = h20') (e2 : v0 = v0') {u : Unit} (_t : tokA = u) : prog_wait_g2 v19 h20 v0 K = prog_wait_g2 v19' h20' v0' K := by rw [e0, e1, e2]

/-- coxswain/prog.wait -/
def prog_wait (x0 : AVal) (h : Heap) (Q : AVal → Heap → Prop) : Prop :=
  al h (.box x0) fun v0 h1 =>
  al h1 (.alloc [(.int .i64 0), (.int .i64 0), (.int .i64 0), (.int .i64 0), (.int .i64 0), (.int .i64 0), (.int .i64 0), (.str []), (.str [])]) fun v2 h3 =>
  rd h3 (.fieldAddr 1 v0) fun v4 =>
  rd h3 (.load1 v4) fun v5 =>
  cl n_prog_within [v5, (.int .i64 0), (.int .i64 3)] h3 fun v6 h7 =>
  prog_wait_g1 v6 h7 v0 fun v19 h20 =>
  prog_wait_g2 v19 h20 v0 fun v32 h33 =>
  rd h33 (.fieldAddr 1 v0) fun v34 =>
  rd h33 (.load1 v34) fun v35 =>
  rd h33 (.fieldAddr 2 v0) fun v36 =>
  rd h33 (.load1 v36) fun v37 =>
  rd h33 (.fieldAddr 3 v0) fun v38 =>
  rd h33 (.load1 v38) fun v39 =>
  rd h33 (.build [(.int .i64 0), (.int .i64 0), (.int .i64 0), (.int .i64 0), (.int .i64 0), (.int .i64 0), (.int .i64 0), (.str []), (.str [])] [(1, 1, v35), (2, 1, v37), (3, 1, v39)]) fun v40 =>
  wr h33 (.storeN 9 v2 v40) fun v41 h42 =>
  rd h42 (.loadN 9 v2) fun v43 =>
  Q (.tuple [v43, v32]) h42
theorem prog_wait_wp {x0 : AVal} {h : Heap} {Q : AVal → Heap → Prop} (H : prog_wait x0 h Q) : cl n_prog_wait [x0] h Q :=
  wcl (vs := []) (fn := compFunc tb21 Tryz.f166) (by kernel_rfl) (by kernel_rfl) (by kernel_rfl : prog_wait x0 h Q = wpG cl [] (compFunc tb21 Tryz.f166) [x0] h Q) H
/-- coxswain/prog.cond -/
def prog_cond (x0 : AVal) (h : Heap) (Q : AVal → Heap → Prop) : Prop :=
  al h (.box x0) fun v0 h1 =>
  al h1 (.alloc [(.int .i64 0), (.int .i64 0), (.int .i64 0), (.int .i64 0), (.int .i64 0), (.int .i64 0), (.int .i64 0), (.str []), (.str [])]) fun v2 h3 =>
  rd h3 (.fieldAddr 1 v0) fun v4 =>
  rd h3 (.load1 v4) fun v5 =>
  rd h3 (.build [(.int .i64 0), (.int .i64 0), (.int .i64 0), (.int .i64 0), (.int .i64 0), (.int .i64 0), (.int .i64 0), (.str []), (.str [])] [(1, 1, v5)]) fun v6 =>
  rd h3 (.fieldAddr 1 v0) fun v7 =>
  rd h3 (.load1 v7) fun v8 =>
  cl n_prog_within [v8, (.int .i64 0), (.int .i64 3)] h3 fun v9 h10 =>
  wr h10 (.storeN 9 v2 v6) fun v11 h12 =>
  ck [h3, h10, h12] (⟨(.load1 v4), v5, [1]⟩ :: []) (rd h12 (.loadN 9 v2) fun v13 =>
  Q (.tuple [v13, v9]) h12)
theorem prog_cond_wp {x0 : AVal} {h : Heap} {Q : AVal → Heap → Prop} (H : prog_cond x0 h Q) : cl n_prog_cond [x0] h Q :=
  wcl (vs := []) (fn := compFunc tb21 Tryz.f167) (by kernel_rfl) (by kernel_rfl) (by kernel_rfl : prog_cond x0 h Q = wpG cl [] (compFunc tb21 Tryz.f167) [x0] h Q) H
/-- coxswain/prog.asks -/
def prog_asks (x0 : AVal) (h : Heap) (Q : AVal → Heap → Prop) : Prop :=
  al h (.box x0) fun v0 h1 =>
  al h1 (.alloc [(.int .i64 0), (.int .i64 0), (.int .i64 0), (.int .i64 0), (.int .i64 0), (.int .i64 0), (.int .i64 0), (.str []), (.str [])]) fun v2 h3 =>
  rd h3 (.fieldAddr 4 v0) fun v4 =>
  rd h3 (.loadN 5 v4) fun v5 =>
  rd h3 (.build [(.int .i64 0), (.int .i64 0), (.int .i64 0), (.int .i64 0), (.int .i64 0), (.int .i64 0), (.int .i64 0), (.str []), (.str [])] [(4, 5, v5)]) fun v6 =>
  rd h3 (.fieldAddr 4 v0) fun v7 =>
  rd h3 (.loadN 5 v7) fun v8 =>
  cl n_prog_MayCall [v8] h3 fun v9 h10 =>
  wr h10 (.storeN 9 v2 v6) fun v11 h12 =>
  ck [h3, h10, h12] (⟨(.loadN 5 v4), v5, [1]⟩ :: []) (rd h12 (.loadN 9 v2) fun v13 =>
  Q (.tuple [v13, v9]) h12)
theorem prog_asks_wp {x0 : AVal} {h : Heap} {Q : AVal → Heap → Prop} (H : prog_asks x0 h Q) : cl n_prog_asks [x0] h Q :=
  wcl (vs := []) (fn := compFunc tb21 Tryz.f168) (by kernel_rfl) (by kernel_rfl) (by kernel_rfl : prog_asks x0 h Q = wpG cl [] (compFunc tb21 Tryz.f168) [x0] h Q) H
/-- coxswain/prog.op -/
def prog_op (x0 : AVal) (h : Heap) (Q : AVal → Heap → Prop) : Prop :=
  rd h (.bin .eql (some (.leaf .int)) x0 (.int .i64 0)) fun v0 =>
  let J21 := fun (x4 : AVal) (h1 : Heap) =>
  br x4 (
  Q (.func n_prog_none [] []) h1) (
  rd h1 (.bin .eql (some (.leaf .int)) x0 (.int .i64 1)) fun v5 =>
  let J19 := fun (x8 : AVal) (h6 : Heap) =>
  br x8 (
  Q (.func n_prog_ticks [] []) h6) (
  rd h6 (.bin .eql (some (.leaf .int)) x0 (.int .i64 2)) fun v9 =>
  let J17 := fun (x12 : AVal) (h10 : Heap) =>
  br x12 (
  Q (.func n_prog_mutex [] []) h10) (
  rd h10 (.bin .eql (some (.leaf .int)) x0 (.int .i64 5)) fun v13 =>
  br v13 (
  Q (.func n_prog_jump [] []) h10) (
  rd h10 (.bin .eql (some (.leaf .int)) x0 (.int .i64 8)) fun v14 =>
  br v14 (
  Q (.func n_prog_wait [] []) h10) (
  rd h10 (.bin .eql (some (.leaf .int)) x0 (.int .i64 9)) fun v15 =>
  br v15 (
  Q (.func n_prog_cond [] []) h10) (
  rd h10 (.bin .eql (some (.leaf .int)) x0 (.int .i64 10)) fun v16 =>
  br v16 (
  Q (.func n_prog_asks [] []) h10) (
  Q .nilfunc h10)))))
br v9 (
  J17 v9 h6) (
  rd h6 (.bin .eql (some (.leaf .int)) x0 (.int .i64 3)) fun v18 =>
  J17 v18 h6))
br v5 (
  J19 v5 h1) (
  rd h1 (.bin .eql (some (.leaf .int)) x0 (.int .i64 7)) fun v20 =>
  J19 v20 h1))
br v0 (
  J21 v0 h) (
  rd h (.bin .eql (some (.leaf .int)) x0 (.int .i64 4)) fun v22 =>
  br v22 (
  J21 v22 h) (
  rd h (.bin .eql (some (.leaf .int)) x0 (.int .i64 6)) fun v27 =>
  J21 v27 h))
theorem prog_op_wp {x0 : AVal} {h : Heap} {Q : AVal → Heap → Prop} (H : prog_op x0 h Q) : cl n_prog_op [x0] h Q :=
  wcl (vs := []) (fn := compFunc tb21 Tryz.f118) (by kernel_rfl) (by kernel_rfl) (by kernel_rfl : prog_op x0 h Q = wpG cl [] (compFunc tb21 Tryz.f118) [x0] h Q) H
def prog_May_g1 (v11 : AVal) (h20 : Heap) (v12 : AVal) (v0 : AVal) (K : AVal → Heap → Prop) : Prop :=
  gw v11 true (fun K => rd h20 (.loadN 9 v12) fun v21 => K v21 h20) h20 fun v22 h23 =>
  gw v11 true (fun K => rd h23 (.loadN 9 v0) fun v24 => K v24 h23) h23 fun v25 h26 =>
  gw v11 true (fun K => rd h26 (.bin .eql (some (.agg 9 [(0, .int), (1, .int), (2, .int), (3, .int), (4, .int), (5, .int), (6, .int), (7, .str), (8, .str)])) v22 v25) fun v27 => K v27 h26) h26 fun v28 h29 =>
  rd h29 (.pick v11 v28 (.bool false)) fun v30 =>
  K v30 h29
theorem prog_May_g1_mono {v11 : AVal} {h20 : Heap} {v12 : AVal} {v0 : AVal} {K L : AVal → Heap → Prop} (hk : ∀ v h, K v h → L v h) (w : prog_May_g1 v11 h20 v12 v0 K) : prog_May_g1 v11 h20 v12 v0 L := (gw_rd_mono fun _ _ => (gw_rd_mono fun _ _ => (gw_rd_mono fun _ _ => (rd_mono fun _ => hk _ _)))) w
@[congr] theorem prog_May_g1_congr {v11 v11' : AVal} {h20 h20' : Heap} {v12 v12' : AVal} {v0 v0' : AVal} {K : AVal → Heap → Prop} (e0 : v11 = v11') (e1 : h20 = h20') (e2 : v12 = v12') (e3 : v0 = v0') {u : Unit} (_t : tokA = u) : prog_May_g1 v11 h20 v12 v0 K = prog_May_g1 v11' h20' v12' v0' K := by rw [e0, e1, e2, e3]

/-- coxswain/prog.May -/
def prog_May (x0 : AVal) (h : Heap) (Q : AVal → Heap → Prop) : Prop :=
  al h (.box x0) fun v0 h1 =>
  rd h1 (.fieldAddr 0 v0) fun v2 =>
  rd h1 (.load1 v2) fun v3 =>
  cl n_prog_op [v3] h1 fun v4 h5 =>
  rd h5 (.bin .eql (some .func) v4 .nilfunc) fun v6 =>
  br v6 (
  Q (.bool false) h5) (
  rd h5 (.loadN 9 v0) fun v7 =>
  cv cl v4 [v7] h5 fun v8 h9 =>
  rd h9 (.extract v8 0) fun v10 =>
  rd h9 (.extract v8 1) fun v11 =>
  al h9 (.alloc [(.int .i64 0), (.int .i64 0), (.int .i64 0), (.int .i64 0), (.int .i64 0), (.int .i64 0), (.int .i64 0), (.str []), (.str [])]) fun v12 h13 =>
  wr h13 (.storeN 9 v12 v10) fun v14 h15 =>
  rd h15 (.fieldAddr 0 v0) fun v16 =>
  rd h15 (.load1 v16) fun v17 =>
  rd h15 (.fieldAddr 0 v12) fun v18 =>
  wr h15 (.storeN 1 v18 v17) fun v19 h20 =>
  prog_May_g1 v11 h20 v12 v0 fun v31 h32 =>
  Q v31 h32)
theorem prog_May_wp {x0 : AVal} {h : Heap} {Q : AVal → Heap → Prop} (H : prog_May x0 h Q) : cl n_prog_May [x0] h Q :=
  wcl (vs := []) (fn := compFunc tb21 Tryz.f72) (by kernel_rfl) (by kernel_rfl) (by kernel_rfl : prog_May x0 h Q = wpG cl [] (compFunc tb21 Tryz.f72) [x0] h Q) H
/-- coxswain/prog.Fix -/
def prog_Fix (x0 : AVal) (h : Heap) (Q : AVal → Heap → Prop) : Prop :=
  rd h (.len .slice x0) fun v0 =>
  rd h (.minmax false v0 [(.int .i64 40)]) fun v1 =>
  rd h (.sliceSl 9 x0 none (some v1) none) fun v2 =>
  rd h (.len .slice v2) fun v3 =>
  lp [.nilslice, (.int .i64 0)] h fun d4 z5 h6 again7 =>
  rd h6 (.bin .lss none (d4.getD 1 undefA) v3) fun v8 =>
  br v8 (
  rd h6 (.idxAddrS 9 v2 (d4.getD 1 undefA)) fun v9 =>
  rd h6 (.loadN 9 v9) fun v10 =>
  al h6 (.alloc [(.int .i64 0), (.int .i64 0), (.int .i64 0), (.int .i64 0), (.int .i64 0), (.int .i64 0), (.int .i64 0), (.str []), (.str [])]) fun v11 h12 =>
  wr h12 (.storeN 9 v11 v10) fun v13 h14 =>
  rd h14 (.loadN 9 v11) fun v15 =>
  cl n_prog_May [v15] h14 fun v16 h17 =>
  rd h17 (.un .not v16) fun v18 =>
  let J27 := fun (h19 : Heap) =>
  rd h19 (.loadN 9 v11) fun v21 =>
  al h19 (.buildSlice [(.int .i64 0), (.int .i64 0), (.int .i64 0), (.int .i64 0), (.int .i64 0), (.int .i64 0), (.int .i64 0), (.str []), (.str [])] 1 [(0, 9, v21)]) fun v22 h23 =>
  wr h23 (.append 9 88 (d4.getD 0 undefA) v22) fun v24 h25 =>
  rd h25 (.bin .add none (d4.getD 1 undefA) (.int .i64 1)) fun v26 =>
  again7 [v24, v26] h25
br v18 (
  rd h17 (.build [(.int .i64 0), (.int .i64 0), (.int .i64 0), (.int .i64 0), (.int .i64 0), (.int .i64 0), (.int .i64 0), (.str []), (.str [])] []) fun v28 =>
  wr h17 (.storeN 9 v11 v28) fun v29 h30 =>
  J27 h30) (
  J27 h17)) (
  Q (d4.getD 0 undefA) h6)
theorem prog_Fix_wp {x0 : AVal} {h : Heap} {Q : AVal → Heap → Prop} (H : prog_Fix x0 h Q) : cl n_prog_Fix [x0] h Q :=
  wcl (vs := [3, 12]) (fn := compFunc tb21 Tryz.f31) (by kernel_rfl) (by kernel_rfl) (by kernel_rfl : prog_Fix x0 h Q = wpG cl [3, 12] (compFunc tb21 Tryz.f31) [x0] h Q) H

end Go.AM

open Go Go.AM Go.Proofs
namespace Go.AM
set_option maxRecDepth 100000
set_option linter.unusedVariables false
/-- (*coxswain/kern.Kern).begin -/
def kern_Kern_begin (x0 x1 x2 : AVal) (h : Heap) (Q : AVal → Heap → Prop) : Prop :=
  al h (.box x1) fun v0 h1 =>
  rd h1 (.nilCheck x0) fun v2 =>
  rd h1 (.fieldAddr 2 v2) fun v3 =>
  rd h1 (.load1 v3) fun v4 =>
  rd h1 (.loadN 21 v0) fun v5 =>
  al h1 (.buildSlice [(.int .i64 0), (.int .i64 0), (.int .i64 0), (.int .i64 0), (.int .i64 0), (.int .i64 0), (.int .i64 0), (.int .i64 0), (.int .i64 0), (.bool false), (.int .i64 0), (.int .i64 0), (.int .i64 0), (.str []), (.bool false), (.int .i64 0), (.int .i64 0), (.int .i64 0), (.int .i64 0), (.int .i64 0), .nilslice] 1 [(0, 21, v5)]) fun v6 h7 =>
  wr h7 (.append 21 192 v4 v6) fun v8 h9 =>
  rd h9 (.nilCheck x0) fun v10 =>
  rd h9 (.fieldAddr 2 v10) fun v11 =>
  wr h9 (.storeN 1 v11 v8) fun v12 h13 =>
  ck [h7, h9, h13] [] (rd h13 (.nilCheck x0) fun v14 =>
  rd h13 (.fieldAddr 3 v14) fun v15 =>
  rd h13 (.load1 v15) fun v16 =>
  al h13 (.buildSlice [.nilslice] 1 [(0, 1, x2)]) fun v17 h18 =>
  wr h18 (.append 1 24 v16 v17) fun v19 h20 =>
  rd h20 (.nilCheck x0) fun v21 =>
  rd h20 (.fieldAddr 3 v21) fun v22 =>
  wr h20 (.storeN 1 v22 v19) fun v23 h24 =>
  Q (.tuple []) h24)
theorem kern_Kern_begin_wp {x0 x1 x2 : AVal} {h : Heap} {Q : AVal → Heap → Prop} (H : kern_Kern_begin x0 x1 x2 h Q) : cl n_kern_Kern_begin [x0, x1, x2] h Q :=
  wcl (vs := []) (fn := compFunc tb21 Tryz.f29) (by kernel_rfl) (by kernel_rfl) (by kernel_rfl : kern_Kern_begin x0 x1 x2 h Q = wpG cl [] (compFunc tb21 Tryz.f29) [x0, x1, x2] h Q) H
/-- coxswain/kern.New -/
def kern_New (x0 : AVal) (h : Heap) (Q : AVal → Heap → Prop) : Prop :=
  al h (.box x0) fun v0 h1 =>
  rd h1 (.loadN 6 v0) fun v2 =>
  cl n_admit_May [v2] h1 fun v3 h4 =>
  rd h4 (.un .not v3) fun v5 =>
  br v5 (
  Q (.tuple [.nilptr, (.int .i64 2)]) h4) (
  rd h4 (.build [.nilslice, (.int .i64 0), .nilslice, .nilslice, .nilptr, .nilptr, .nilptr, .nilptr, .nilslice, .nilptr, .nilptr, .nilslice, .nilslice, (.int .i64 0), .nilslice, .nilslice, .nilslice, .nilslice, (.int .i64 0), (.int .i64 0), (.int .i64 0), (.bool false), (.int .i64 0), (.int .i64 0), (.int .i64 0), (.int .i64 0), (.int .i64 0), (.int .i64 0), (.int .i64 0), (.int .i64 0)] []) fun v6 =>
  al h4 (.box v6) fun v7 h8 =>
  rd h8 (.fieldAddr 0 v0) fun v9 =>
  rd h8 (.load1 v9) fun v10 =>
  rd h8 (.len .slice v10) fun v11 =>
  lp [(.int .i64 0)] h8 fun d12 z13 h14 again15 =>
  rd h14 (.bin .lss none (d12.getD 0 undefA) v11) fun v16 =>
  br v16 (
  rd h14 (.idxAddrS 8 v10 (d12.getD 0 undefA)) fun v17 =>
  rd h14 (.loadN 8 v17) fun v18 =>
  al h14 (.alloc [(.int .i64 0), (.int .i64 0), (.int .i64 0), (.int .i64 0), (.int .i64 0), (.int .i64 0), .nilslice, .nilslice]) fun v19 h20 =>
  wr h20 (.storeN 8 v19 v18) fun v21 h22 =>
  rd h22 (.fieldAddr 6 v19) fun v23 =>
  rd h22 (.load1 v23) fun v24 =>
  cl n_slices_Clone_slint_int_ [v24] h22 fun v25 h26 =>
  rd h26 (.fieldAddr 6 v19) fun v27 =>
  wr h26 (.storeN 1 v27 v25) fun v28 h29 =>
  rd h29 (.nilCheck v7) fun v30 =>
  rd h29 (.fieldAddr 0 v30) fun v31 =>
  rd h29 (.load1 v31) fun v32 =>
  rd h29 (.loadN 8 v19) fun v33 =>
  al h29 (.buildSlice [(.int .i64 0), (.int .i64 0), (.int .i64 0), (.int .i64 0), (.int .i64 0), (.int .i64 0), .nilslice, .nilslice] 1 [(0, 8, v33)]) fun v34 h35 =>
  wr h35 (.append 8 96 v32 v34) fun v36 h37 =>
  rd h37 (.nilCheck v7) fun v38 =>
  rd h37 (.fieldAddr 0 v38) fun v39 =>
  wr h37 (.storeN 1 v39 v36) fun v40 h41 =>
  ck [h35, h37, h41] [] (rd h41 (.loadN 8 v19) fun v42 =>
  rd h41 (.fieldAddr 7 v19) fun v43 =>
  rd h41 (.load1 v43) fun v44 =>
  cl n_task_New [(d12.getD 0 undefA), v42] h41 fun v45 h46 =>
  cl n_prog_Fix [v44] h46 fun v47 h48 =>
  cl n_kern_Kern_begin [v7, v45, v47] h48 fun v49 h50 =>
  ck [h41, h46, h48, h50] (⟨(.load1 v43), v44, [1]⟩ :: []) (rd h50 (.bin .add none (d12.getD 0 undefA) (.int .i64 1)) fun v51 =>
  again15 [v51] h50))) (
  rd h14 (.fieldAddr 1 v0) fun v52 =>
  rd h14 (.load1 v52) fun v53 =>
  rd h14 (.len .slice v53) fun v54 =>
  lp [(.int .i64 0)] h14 fun d55 z56 h57 again58 =>
  rd h57 (.bin .lss none (d55.getD 0 undefA) v54) fun v59 =>
  br v59 (
  rd h57 (.idxAddrS 2 v53 (d55.getD 0 undefA)) fun v60 =>
  rd h57 (.loadN 2 v60) fun v61 =>
  al h57 (.alloc [(.int .i64 0), .nilslice]) fun v62 h63 =>
  wr h63 (.storeN 2 v62 v61) fun v64 h65 =>
  rd h65 (.fieldAddr 0 v0) fun v66 =>
  rd h65 (.load1 v66) fun v67 =>
  rd h65 (.len .slice v67) fun v68 =>
  rd h65 (.bin .add none v68 (d55.getD 0 undefA)) fun v69 =>
  rd h65 (.loadN 2 v62) fun v70 =>
  rd h65 (.fieldAddr 1 v62) fun v71 =>
  rd h65 (.load1 v71) fun v72 =>
  cl n_task_Best [v69, v70] h65 fun v73 h74 =>
  cl n_prog_Fix [v72] h74 fun v75 h76 =>
  cl n_kern_Kern_begin [v7, v73, v75] h76 fun v77 h78 =>
  ck [h65, h74, h76, h78] (⟨(.load1 v71), v72, [1]⟩ :: []) (rd h78 (.bin .add none (d55.getD 0 undefA) (.int .i64 1)) fun v79 =>
  again58 [v79] h78)) (
  rd h57 (.fieldAddr 2 v0) fun v80 =>
  rd h57 (.load1 v80) fun v81 =>
  cl n_rank_New [v81] h57 fun v82 h83 =>
  rd h83 (.extract v82 0) fun v84 =>
  rd h83 (.extract v82 1) fun v85 =>
  rd h83 (.nilCheck v7) fun v86 =>
  rd h83 (.fieldAddr 4 v86) fun v87 =>
  wr h83 (.storeN 1 v87 v84) fun v88 h89 =>
  rd h89 (.nilCheck v7) fun v90 =>
  rd h89 (.fieldAddr 4 v90) fun v91 =>
  rd h89 (.load1 v91) fun v92 =>
  cl n_locks_New [v92] h89 fun v93 h94 =>
  rd h94 (.nilCheck v7) fun v95 =>
  rd h94 (.fieldAddr 5 v95) fun v96 =>
  wr h94 (.storeN 1 v96 v93) fun v97 h98 =>
  cl n_cond_New [(.int .i64 4)] h98 fun v99 h100 =>
  rd h100 (.extract v99 0) fun v101 =>
  rd h100 (.extract v99 1) fun v102 =>
  rd h100 (.nilCheck v7) fun v103 =>
  rd h100 (.fieldAddr 6 v103) fun v104 =>
  wr h100 (.storeN 1 v104 v101) fun v105 h106 =>
  cl n_wheel_New [(.int .i64 0)] h106 fun v107 h108 =>
  rd h108 (.extract v107 0) fun v109 =>
  rd h108 (.extract v107 1) fun v110 =>
  rd h108 (.nilCheck v7) fun v111 =>
  rd h108 (.fieldAddr 7 v111) fun v112 =>
  wr h108 (.storeN 1 v112 v109) fun v113 h114 =>
  rd h114 (.fieldAddr 3 v0) fun v115 =>
  rd h114 (.load1 v115) fun v116 =>
  rd h114 (.len .slice v116) fun v117 =>
  lp [(.int .i64 0)] h114 fun d118 z119 h120 again121 =>
  rd h120 (.bin .lss none (d118.getD 0 undefA) v117) fun v122 =>
  br v122 (
  rd h120 (.idxAddrS 1 v116 (d118.getD 0 undefA)) fun v123 =>
  rd h120 (.load1 v123) fun v124 =>
  cl n_line_New [v124] h120 fun v125 h126 =>
  rd h126 (.extract v125 0) fun v127 =>
  rd h126 (.extract v125 1) fun v128 =>
  rd h126 (.nilCheck v7) fun v129 =>
  rd h126 (.fieldAddr 8 v129) fun v130 =>
  rd h126 (.load1 v130) fun v131 =>
  al h126 (.buildSlice [.nilptr] 1 [(0, 1, v127)]) fun v132 h133 =>
  wr h133 (.append 1 8 v131 v132) fun v134 h135 =>
  rd h135 (.nilCheck v7) fun v136 =>
  rd h135 (.fieldAddr 8 v136) fun v137 =>
  wr h135 (.storeN 1 v137 v134) fun v138 h139 =>
  rd h139 (.bin .add none (d118.getD 0 undefA) (.int .i64 1)) fun v140 =>
  again121 [v140] h139) (
  rd h120 (.fieldAddr 5 v0) fun v141 =>
  rd h120 (.load1 v141) fun v142 =>
  cl n_dog_New [v142] h120 fun v143 h144 =>
  rd h144 (.extract v143 0) fun v145 =>
  rd h144 (.extract v143 1) fun v146 =>
  rd h144 (.nilCheck v7) fun v147 =>
  rd h144 (.fieldAddr 9 v147) fun v148 =>
  wr h144 (.storeN 1 v148 v145) fun v149 h150 =>
  rd h150 (.fieldAddr 4 v0) fun v151 =>
  rd h150 (.load1 v151) fun v152 =>
  cl n_unix_New [v152] h150 fun v153 h154 =>
  rd h154 (.extract v153 0) fun v155 =>
  rd h154 (.extract v153 1) fun v156 =>
  rd h154 (.nilCheck v7) fun v157 =>
  rd h154 (.fieldAddr 10 v157) fun v158 =>
  wr h154 (.storeN 1 v158 v155) fun v159 h160 =>
  rd h160 (.nilCheck v7) fun v161 =>
  rd h160 (.fieldAddr 2 v161) fun v162 =>
  rd h160 (.load1 v162) fun v163 =>
  rd h160 (.len .slice v163) fun v164 =>
  lp [(.int .i64 0)] h160 fun d165 z166 h167 again168 =>
  rd h167 (.bin .lss none (d165.getD 0 undefA) v164) fun v169 =>
  br v169 (
  rd h167 (.nilCheck v7) fun v170 =>
  rd h167 (.fieldAddr 10 v170) fun v171 =>
  rd h167 (.load1 v171) fun v172 =>
  cl n_unix_System_Start [v172, (d165.getD 0 undefA)] h167 fun v173 h174 =>
  rd h174 (.bin .add none (d165.getD 0 undefA) (.int .i64 1)) fun v175 =>
  again168 [v175] h174) (
  Q (.tuple [v7, (.int .i64 0)]) h167)))))
theorem kern_New_wp {x0 : AVal} {h : Heap} {Q : AVal → Heap → Prop} (H : kern_New x0 h Q) : cl n_kern_New [x0] h Q :=
  wcl (vs := [22, 53, 105, 148]) (fn := compFunc tb21 Tryz.f9) (by kernel_rfl) (by kernel_rfl) (by kernel_rfl : kern_New x0 h Q = wpG cl [22, 53, 105, 148] (compFunc tb21 Tryz.f9) [x0] h Q) H
/-- coxswain/world.New -/
def world_New (x0 : AVal) (h : Heap) (Q : AVal → Heap → Prop) : Prop :=
  al h (.box x0) fun v0 h1 =>
  rd h1 (.loadN 6 v0) fun v2 =>
  cl n_kern_New [v2] h1 fun v3 h4 =>
  rd h4 (.extract v3 0) fun v5 =>
  rd h4 (.extract v3 1) fun v6 =>
  rd h4 (.bin .neq (some (.leaf .int)) v6 (.int .i64 0)) fun v7 =>
  br v7 (
  Q (.tuple [.nilptr, v6]) h4) (
  rd h4 (.build [.nilptr, .nilslice] [(0, 1, v5)]) fun v8 =>
  al h4 (.box v8) fun v9 h10 =>
  Q (.tuple [v9, (.int .i64 0)]) h10)
theorem world_New_wp {x0 : AVal} {h : Heap} {Q : AVal → Heap → Prop} (H : world_New x0 h Q) : cl n_world_New [x0] h Q :=
  wcl (vs := []) (fn := compFunc tb21 Tryz.f25) (by kernel_rfl) (by kernel_rfl) (by kernel_rfl : world_New x0 h Q = wpG cl [] (compFunc tb21 Tryz.f25) [x0] h Q) H
/-- (*coxswain/world.World).Play -/
def world_World_Play (x0 x1 x2 : AVal) (h : Heap) (Q : AVal → Heap → Prop) : Prop :=
  rd h (.bin .eql (some (.leaf .ptr)) x0 .nilptr) fun v0 =>
  br v0 (
  Q .nilslice h) (
  rd h (.minmax false x2 [(.int .i64 4096)]) fun v1 =>
  rd h (.minmax true v1 [(.int .i64 0)]) fun v2 =>
  lp [.nilslice, (.int .i64 0)] h fun d3 z4 h5 again6 =>
  rd h5 (.bin .lss none (d3.getD 1 undefA) v2) fun v7 =>
  br v7 (
  rd h5 (.nilCheck x0) fun v8 =>
  rd h5 (.fieldAddr 0 v8) fun v9 =>
  rd h5 (.load1 v9) fun v10 =>
  cl n_kern_Kern_Now [v10] h5 fun v11 h12 =>
  al h12 (.alloc [(.int .i64 0)]) fun v13 h14 =>
  wr h14 (.storeN 1 v13 v11) fun v15 h16 =>
  rd h16 (.nilCheck x0) fun v17 =>
  rd h16 (.fieldAddr 0 v17) fun v18 =>
  rd h16 (.load1 v18) fun v19 =>
  rd h16 (.mkFunc n_world_World_Play_1 [] [v13]) fun v20 =>
  cl n_world_pick [x1, v20] h16 fun v21 h22 =>
  cl n_kern_Kern_Tick [v19, v21] h22 fun v23 h24 =>
  al h24 (.buildSlice [(.int .i64 0), (.bool false)] 1 [(0, 2, v23)]) fun v25 h26 =>
  wr h26 (.append 2 16 (d3.getD 0 undefA) v25) fun v27 h28 =>
  ck [h16, h22, h26, h28] (⟨(.load1 v18), v19, [1]⟩ :: []) (rd h28 (.bin .add none (d3.getD 1 undefA) (.int .i64 1)) fun v29 =>
  again6 [v27, v29] h28)) (
  rd h5 (.nilCheck x0) fun v30 =>
  rd h5 (.fieldAddr 1 v30) fun v31 =>
  rd h5 (.load1 v31) fun v32 =>
  wr h5 (.append 2 16 v32 (d3.getD 0 undefA)) fun v33 h34 =>
  rd h34 (.nilCheck x0) fun v35 =>
  rd h34 (.fieldAddr 1 v35) fun v36 =>
  wr h34 (.storeN 1 v36 v33) fun v37 h38 =>
  Q (d3.getD 0 undefA) h38))
theorem world_World_Play_wp {x0 x1 x2 : AVal} {h : Heap} {Q : AVal → Heap → Prop} (H : world_World_Play x0 x1 x2 h Q) : cl n_world_World_Play [x0, x1, x2] h Q :=
  wcl (vs := [7, 14]) (fn := compFunc tb21 Tryz.f22) (by kernel_rfl) (by kernel_rfl) (by kernel_rfl : world_World_Play x0 x1 x2 h Q = wpG cl [7, 14] (compFunc tb21 Tryz.f22) [x0, x1, x2] h Q) H
/-- (*coxswain/world.World).Kern -/
def world_World_Kern (x0 : AVal) (h : Heap) (Q : AVal → Heap → Prop) : Prop :=
  rd h (.bin .eql (some (.leaf .ptr)) x0 .nilptr) fun v0 =>
  br v0 (
  Q .nilptr h) (
  rd h (.nilCheck x0) fun v1 =>
  rd h (.fieldAddr 0 v1) fun v2 =>
  rd h (.load1 v2) fun v3 =>
  Q v3 h)
theorem world_World_Kern_wp {x0 : AVal} {h : Heap} {Q : AVal → Heap → Prop} (H : world_World_Kern x0 h Q) : cl n_world_World_Kern [x0] h Q :=
  wcl (vs := []) (fn := compFunc tb21 Tryz.f23) (by kernel_rfl) (by kernel_rfl) (by kernel_rfl : world_World_Kern x0 h Q = wpG cl [] (compFunc tb21 Tryz.f23) [x0] h Q) H
/-- (*coxswain/world.World).Trace -/
def world_World_Trace (x0 : AVal) (h : Heap) (Q : AVal → Heap → Prop) : Prop :=
  rd h (.bin .eql (some (.leaf .ptr)) x0 .nilptr) fun v0 =>
  br v0 (
  Q .nilslice h) (
  rd h (.nilCheck x0) fun v1 =>
  rd h (.fieldAddr 1 v1) fun v2 =>
  rd h (.load1 v2) fun v3 =>
  cl n_slices_Clone_slapi_Ran_api_Ran_ [v3] h fun v4 h5 =>
  Q v4 h5)
theorem world_World_Trace_wp {x0 : AVal} {h : Heap} {Q : AVal → Heap → Prop} (H : world_World_Trace x0 h Q) : cl n_world_World_Trace [x0] h Q :=
  wcl (vs := []) (fn := compFunc tb21 Tryz.f24) (by kernel_rfl) (by kernel_rfl) (by kernel_rfl : world_World_Trace x0 h Q = wpG cl [] (compFunc tb21 Tryz.f24) [x0] h Q) H
/-- slices.Clone[[]coxswain/api.Ran,coxswain/api.Ran] -/
def slices_Clone_slapi_Ran_api_Ran_ (x0 : AVal) (h : Heap) (Q : AVal → Heap → Prop) : Prop :=
  rd h (.bin .eql (some .slice) x0 .nilslice) fun v0 =>
  br v0 (
  Q .nilslice h) (
  al h (.buildSlice [(.int .i64 0), (.bool false)] 0 []) fun v1 h2 =>
  wr h2 (.append 2 16 v1 x0) fun v3 h4 =>
  Q v3 h4)
theorem slices_Clone_slapi_Ran_api_Ran__wp {x0 : AVal} {h : Heap} {Q : AVal → Heap → Prop} (H : slices_Clone_slapi_Ran_api_Ran_ x0 h Q) : cl n_slices_Clone_slapi_Ran_api_Ran_ [x0] h Q :=
  wcl (vs := []) (fn := compFunc tb21 Tryz.f66) (by kernel_rfl) (by kernel_rfl) (by kernel_rfl : slices_Clone_slapi_Ran_api_Ran_ x0 h Q = wpG cl [] (compFunc tb21 Tryz.f66) [x0] h Q) H
def coxswainlaw0_GreatConfig_g1 (v5 : AVal) (h1 : Heap) (v0 : AVal) (K : AVal → Heap → Prop) : Prop :=
  gw v5 false (fun K => rd h1 (.fieldAddr 1 v0) fun v6 => K v6 h1) h1 fun v7 h8 =>
  gw v5 false (fun K => rd h8 (.load1 v7) fun v9 => K v9 h8) h8 fun v10 h11 =>
  gw v5 false (fun K => rd h11 (.len .slice v10) fun v12 => K v12 h11) h11 fun v13 h14 =>
  gw v5 false (fun K => rd h14 (.bin .gtr none v13 (.int .i64 12)) fun v15 => K v15 h14) h14 fun v16 h17 =>
  rd h17 (.pick v5 (.bool true) v16) fun v18 =>
  K v18 h17
theorem coxswainlaw0_GreatConfig_g1_mono {v5 : AVal} {h1 : Heap} {v0 : AVal} {K L : AVal → Heap → Prop} (hk : ∀ v h, K v h → L v h) (w : coxswainlaw0_GreatConfig_g1 v5 h1 v0 K) : coxswainlaw0_GreatConfig_g1 v5 h1 v0 L := (gw_rd_mono fun _ _ => (gw_rd_mono fun _ _ => (gw_rd_mono fun _ _ => (gw_rd_mono fun _ _ => (rd_mono fun _ => hk _ _))))) w
@[congr] theorem coxswainlaw0_GreatConfig_g1_congr {v5 v5' : AVal} {h1 h1' : Heap} {v0 v0' : AVal} {K : AVal → Heap → Prop} (e0 : v5 = v5') (e1 : h1 = h1') (e2 : v0 = v0') {u : Unit} (_t : tokA = u) : coxswainlaw0_GreatConfig_g1 v5 h1 v0 K = coxswainlaw0_GreatConfig_g1 v5' h1' v0' K := by rw [e0, e1, e2]

def coxswainlaw0_GreatConfig_g2 (v19 : AVal) (h20 : Heap) (v0 : AVal) (K : AVal → Heap → Prop) : Prop :=
  gw v19 false (fun K => rd h20 (.fieldAddr 2 v0) fun v21 => K v21 h20) h20 fun v22 h23 =>
  gw v19 false (fun K => rd h23 (.load1 v22) fun v24 => K v24 h23) h23 fun v25 h26 =>
  gw v19 false (fun K => rd h26 (.len .slice v25) fun v27 => K v27 h26) h26 fun v28 h29 =>
  gw v19 false (fun K => rd h29 (.bin .gtr none v28 (.int .i64 12)) fun v30 => K v30 h29) h29 fun v31 h32 =>
  rd h32 (.pick v19 (.bool true) v31) fun v33 =>
  K v33 h32
theorem coxswainlaw0_GreatConfig_g2_mono {v19 : AVal} {h20 : Heap} {v0 : AVal} {K L : AVal → Heap → Prop} (hk : ∀ v h, K v h → L v h) (w : coxswainlaw0_GreatConfig_g2 v19 h20 v0 K) : coxswainlaw0_GreatConfig_g2 v19 h20 v0 L := (gw_rd_mono fun _ _ => (gw_rd_mono fun _ _ => (gw_rd_mono fun _ _ => (gw_rd_mono fun _ _ => (rd_mono fun _ => hk _ _))))) w
@[congr] theorem coxswainlaw0_GreatConfig_g2_congr {v19 v19' : AVal} {h20 h20' : Heap} {v0 v0' : AVal} {K : AVal → Heap → Prop} (e0 : v19 = v19') (e1 : h20 = h20') (e2 : v0 = v0') {u : Unit} (_t : tokA = u) : coxswainlaw0_GreatConfig_g2 v19 h20 v0 K = coxswainlaw0_GreatConfig_g2 v19' h20' v0' K := by rw [e0, e1, e2]

def coxswainlaw0_GreatConfig_g3 (v34 : AVal) (h35 : Heap) (v0 : AVal) (K : AVal → Heap → Prop) : Prop :=
  gw v34 false (fun K => rd h35 (.fieldAddr 3 v0) fun v36 => K v36 h35) h35 fun v37 h38 =>
  gw v34 false (fun K => rd h38 (.load1 v37) fun v39 => K v39 h38) h38 fun v40 h41 =>
  gw v34 false (fun K => rd h41 (.len .slice v40) fun v42 => K v42 h41) h41 fun v43 h44 =>
  gw v34 false (fun K => rd h44 (.bin .gtr none v43 (.int .i64 12)) fun v45 => K v45 h44) h44 fun v46 h47 =>
  rd h47 (.pick v34 (.bool true) v46) fun v48 =>
  K v48 h47
theorem coxswainlaw0_GreatConfig_g3_mono {v34 : AVal} {h35 : Heap} {v0 : AVal} {K L : AVal → Heap → Prop} (hk : ∀ v h, K v h → L v h) (w : coxswainlaw0_GreatConfig_g3 v34 h35 v0 K) : coxswainlaw0_GreatConfig_g3 v34 h35 v0 L := (gw_rd_mono fun _ _ => (gw_rd_mono fun _ _ => (gw_rd_mono fun _ _ => (gw_rd_mono fun _ _ => (rd_mono fun _ => hk _ _))))) w
@[congr] theorem coxswainlaw0_GreatConfig_g3_congr {v34 v34' : AVal} {h35 h35' : Heap} {v0 v0' : AVal} {K : AVal → Heap → Prop} (e0 : v34 = v34') (e1 : h35 = h35') (e2 : v0 = v0') {u : Unit} (_t : tokA = u) : coxswainlaw0_GreatConfig_g3 v34 h35 v0 K = coxswainlaw0_GreatConfig_g3 v34' h35' v0' K := by rw [e0, e1, e2]

def coxswainlaw0_GreatConfig_g4 (v65 : AVal) (h53 : Heap) (v0 : AVal) (d51 : List AVal) (K : AVal → Heap → Prop) : Prop :=
  gw v65 false (fun K => rd h53 (.fieldAddr 0 v0) fun v66 => K v66 h53) h53 fun v67 h68 =>
  gw v65 false (fun K => rd h68 (.load1 v67) fun v69 => K v69 h68) h68 fun v70 h71 =>
  gw v65 false (fun K => K (d51.getD 0 undefA) h71) h71 fun v72 h73 =>
  gw v65 false (fun K => rd h73 (.idxAddrS 8 v70 v72) fun v74 => K v74 h73) h73 fun v75 h76 =>
  gw v65 false (fun K => rd h76 (.fieldAddr 7 v75) fun v77 => K v77 h76) h76 fun v78 h79 =>
  gw v65 false (fun K => rd h79 (.load1 v78) fun v80 => K v80 h79) h79 fun v81 h82 =>
  gw v65 false (fun K => cl n_coxswainlaw0_GreatOps [v81] h82 fun v83 h84 => K v83 h84) h82 fun v85 h86 =>
  rd h86 (.pick v65 (.bool true) v85) fun v87 =>
  K v87 h86
theorem coxswainlaw0_GreatConfig_g4_mono {v65 : AVal} {h53 : Heap} {v0 : AVal} {d51 : List AVal} {K L : AVal → Heap → Prop} (hk : ∀ v h, K v h → L v h) (w : coxswainlaw0_GreatConfig_g4 v65 h53 v0 d51 K) : coxswainlaw0_GreatConfig_g4 v65 h53 v0 d51 L := (gw_rd_mono fun _ _ => (gw_rd_mono fun _ _ => (gw_mv_mono fun _ _ => (gw_rd_mono fun _ _ => (gw_rd_mono fun _ _ => (gw_rd_mono fun _ _ => (gw_cl_mono fun _ _ => (rd_mono fun _ => hk _ _)))))))) w
@[congr] theorem coxswainlaw0_GreatConfig_g4_congr {v65 v65' : AVal} {h53 h53' : Heap} {v0 v0' : AVal} {d51 : List AVal} {K : AVal → Heap → Prop} (e0 : v65 = v65') (e1 : h53 = h53') (e2 : v0 = v0') {u : Unit} (_t : tokA = u) : coxswainlaw0_GreatConfig_g4 v65 h53 v0 d51 K = coxswainlaw0_GreatConfig_g4 v65' h53' v0' d51 K := by rw [e0, e1, e2]

/-- coxswain/coxswainlaw0.GreatConfig -/
def coxswainlaw0_GreatConfig (x0 : AVal) (h : Heap) (Q : AVal → Heap → Prop) : Prop :=
  al h (.box x0) fun v0 h1 =>
  rd h1 (.fieldAddr 0 v0) fun v2 =>
  rd h1 (.load1 v2) fun v3 =>
  rd h1 (.len .slice v3) fun v4 =>
  rd h1 (.bin .gtr none v4 (.int .i64 12)) fun v5 =>
  coxswainlaw0_GreatConfig_g1 v5 h1 v0 fun v19 h20 =>
  coxswainlaw0_GreatConfig_g2 v19 h20 v0 fun v34 h35 =>
  coxswainlaw0_GreatConfig_g3 v34 h35 v0 fun v49 h50 =>
  br v49 (
  Q (.bool true) h50) (
  lp [(.int .i64 0)] h50 fun d51 z52 h53 again54 =>
  rd h53 (.fieldAddr 0 v0) fun v55 =>
  rd h53 (.load1 v55) fun v56 =>
  rd h53 (.len .slice v56) fun v57 =>
  rd h53 (.bin .lss none (d51.getD 0 undefA) v57) fun v58 =>
  br v58 (
  rd h53 (.fieldAddr 0 v0) fun v59 =>
  rd h53 (.load1 v59) fun v60 =>
  rd h53 (.idxAddrS 8 v60 (d51.getD 0 undefA)) fun v61 =>
  rd h53 (.fieldAddr 6 v61) fun v62 =>
  rd h53 (.load1 v62) fun v63 =>
  rd h53 (.len .slice v63) fun v64 =>
  rd h53 (.bin .gtr none v64 (.int .i64 12)) fun v65 =>
  coxswainlaw0_GreatConfig_g4 v65 h53 v0 d51 fun v88 h89 =>
  br v88 (
  Q (.bool true) h89) (
  rd h89 (.bin .add none (d51.getD 0 undefA) (.int .i64 1)) fun v90 =>
  again54 [v90] h89)) (
  lp [(.int .i64 0)] h53 fun d91 z92 h93 again94 =>
  rd h93 (.fieldAddr 1 v0) fun v95 =>
  rd h93 (.load1 v95) fun v96 =>
  rd h93 (.len .slice v96) fun v97 =>
  rd h93 (.bin .lss none (d91.getD 0 undefA) v97) fun v98 =>
  br v98 (
  rd h93 (.fieldAddr 1 v0) fun v99 =>
  rd h93 (.load1 v99) fun v100 =>
  rd h93 (.idxAddrS 2 v100 (d91.getD 0 undefA)) fun v101 =>
  rd h93 (.fieldAddr 1 v101) fun v102 =>
  rd h93 (.load1 v102) fun v103 =>
  cl n_coxswainlaw0_GreatOps [v103] h93 fun v104 h105 =>
  br v104 (
  Q (.bool true) h105) (
  rd h105 (.bin .add none (d91.getD 0 undefA) (.int .i64 1)) fun v106 =>
  again94 [v106] h105)) (
  Q (.bool false) h93)))
theorem coxswainlaw0_GreatConfig_wp {x0 : AVal} {h : Heap} {Q : AVal → Heap → Prop} (H : coxswainlaw0_GreatConfig x0 h Q) : cl n_coxswainlaw0_GreatConfig [x0] h Q :=
  wcl (vs := [3, 4]) (fn := compFunc tb21 Tryz.f20) (by kernel_rfl) (by kernel_rfl) (by kernel_rfl : coxswainlaw0_GreatConfig x0 h Q = wpG cl [3, 4] (compFunc tb21 Tryz.f20) [x0] h Q) H
def coxswainlaw0_GreatOps_g1 (v13 : AVal) (x0 : AVal) (h4 : Heap) (d2 : List AVal) (K : AVal → Heap → Prop) : Prop :=
  gw v13 false (fun K => K x0 h4) h4 fun v14 h15 =>
  gw v13 false (fun K => K (d2.getD 0 undefA) h15) h15 fun v16 h17 =>
  gw v13 false (fun K => rd h17 (.idxAddrS 9 v14 v16) fun v18 => K v18 h17) h17 fun v19 h20 =>
  gw v13 false (fun K => rd h20 (.fieldAddr 4 v19) fun v21 => K v21 h20) h20 fun v22 h23 =>
  gw v13 false (fun K => rd h23 (.fieldAddr 4 v22) fun v24 => K v24 h23) h23 fun v25 h26 =>
  gw v13 false (fun K => rd h26 (.load1 v25) fun v27 => K v27 h26) h26 fun v28 h29 =>
  gw v13 false (fun K => rd h29 (.len .str v28) fun v30 => K v30 h29) h29 fun v31 h32 =>
  gw v13 false (fun K => rd h32 (.bin .gtr none v31 (.int .i64 600)) fun v33 => K v33 h32) h32 fun v34 h35 =>
  rd h35 (.pick v13 (.bool true) v34) fun v36 =>
  K v36 h35
theorem coxswainlaw0_GreatOps_g1_mono {v13 : AVal} {x0 : AVal} {h4 : Heap} {d2 : List AVal} {K L : AVal → Heap → Prop} (hk : ∀ v h, K v h → L v h) (w : coxswainlaw0_GreatOps_g1 v13 x0 h4 d2 K) : coxswainlaw0_GreatOps_g1 v13 x0 h4 d2 L := (gw_mv_mono fun _ _ => (gw_mv_mono fun _ _ => (gw_rd_mono fun _ _ => (gw_rd_mono fun _ _ => (gw_rd_mono fun _ _ => (gw_rd_mono fun _ _ => (gw_rd_mono fun _ _ => (gw_rd_mono fun _ _ => (rd_mono fun _ => hk _ _))))))))) w
@[congr] theorem coxswainlaw0_GreatOps_g1_congr {v13 v13' : AVal} {x0 x0' : AVal} {h4 h4' : Heap} {d2 : List AVal} {K : AVal → Heap → Prop} (e0 : v13 = v13') (e1 : x0 = x0') (e2 : h4 = h4') {u : Unit} (_t : tokA = u) : coxswainlaw0_GreatOps_g1 v13 x0 h4 d2 K = coxswainlaw0_GreatOps_g1 v13' x0' h4' d2 K := by rw [e0, e1, e2]

/-- coxswain/coxswainlaw0.GreatOps -/
def coxswainlaw0_GreatOps (x0 : AVal) (h : Heap) (Q : AVal → Heap → Prop) : Prop :=
  rd h (.len .slice x0) fun v0 =>
  rd h (.bin .gtr none v0 (.int .i64 60)) fun v1 =>
  br v1 (
  Q (.bool true) h) (
  lp [(.int .i64 0)] h fun d2 z3 h4 again5 =>
  rd h4 (.len .slice x0) fun v6 =>
  rd h4 (.bin .lss none (d2.getD 0 undefA) v6) fun v7 =>
  br v7 (
  rd h4 (.idxAddrS 9 x0 (d2.getD 0 undefA)) fun v8 =>
  rd h4 (.fieldAddr 4 v8) fun v9 =>
  rd h4 (.fieldAddr 3 v9) fun v10 =>
  rd h4 (.load1 v10) fun v11 =>
  rd h4 (.len .str v11) fun v12 =>
  rd h4 (.bin .gtr none v12 (.int .i64 600)) fun v13 =>
  coxswainlaw0_GreatOps_g1 v13 x0 h4 d2 fun v37 h38 =>
  br v37 (
  Q (.bool true) h38) (
  rd h38 (.bin .add none (d2.getD 0 undefA) (.int .i64 1)) fun v39 =>
  again5 [v39] h38)) (
  Q (.bool false) h4))
theorem coxswainlaw0_GreatOps_wp {x0 : AVal} {h : Heap} {Q : AVal → Heap → Prop} (H : coxswainlaw0_GreatOps x0 h Q) : cl n_coxswainlaw0_GreatOps [x0] h Q :=
  wcl (vs := [3]) (fn := compFunc tb21 Tryz.f61) (by kernel_rfl) (by kernel_rfl) (by kernel_rfl : coxswainlaw0_GreatOps x0 h Q = wpG cl [3] (compFunc tb21 Tryz.f61) [x0] h Q) H
/-- coxswain/coxswainlaw0.Low -/
def coxswainlaw0_Low (x0 x1 : AVal) (h : Heap) (Q : AVal → Heap → Prop) : Prop :=
  rd h (.conv (.int .u64) x0) fun v0 =>
  rd h (.conv (.int .u64) x1) fun v1 =>
  rd h (.bin .rem none v0 v1) fun v2 =>
  rd h (.conv (.int .i64) v2) fun v3 =>
  Q v3 h
theorem coxswainlaw0_Low_wp {x0 x1 : AVal} {h : Heap} {Q : AVal → Heap → Prop} (H : coxswainlaw0_Low x0 x1 h Q) : cl n_coxswainlaw0_Low [x0, x1] h Q :=
  wcl (vs := []) (fn := compFunc tb21 Tryz.f8) (by kernel_rfl) (by kernel_rfl) (by kernel_rfl : coxswainlaw0_Low x0 x1 h Q = wpG cl [] (compFunc tb21 Tryz.f8) [x0, x1] h Q) H
def coxswainlaw30_WorldNone_g1 (v10 : AVal) (h8 : Heap) (K : AVal → Heap → Prop) : Prop :=
  gw v10 false (fun K => K .nilptr h8) h8 fun v11 h12 =>
  gw v10 false (fun K => cl n_world_World_Kern [v11] h12 fun v13 h14 => K v13 h14) h12 fun v15 h16 =>
  gw v10 false (fun K => rd h16 (.bin .neq (some (.leaf .ptr)) v15 .nilptr) fun v17 => K v17 h16) h16 fun v18 h19 =>
  rd h19 (.pick v10 (.bool true) v18) fun v20 =>
  K v20 h19
theorem coxswainlaw30_WorldNone_g1_mono {v10 : AVal} {h8 : Heap} {K L : AVal → Heap → Prop} (hk : ∀ v h, K v h → L v h) (w : coxswainlaw30_WorldNone_g1 v10 h8 K) : coxswainlaw30_WorldNone_g1 v10 h8 L := (gw_mv_mono fun _ _ => (gw_cl_mono fun _ _ => (gw_rd_mono fun _ _ => (rd_mono fun _ => hk _ _)))) w
@[congr] theorem coxswainlaw30_WorldNone_g1_congr {v10 v10' : AVal} {h8 h8' : Heap} {K : AVal → Heap → Prop} (e0 : v10 = v10') (e1 : h8 = h8') {u : Unit} (_t : tokA = u) : coxswainlaw30_WorldNone_g1 v10 h8 K = coxswainlaw30_WorldNone_g1 v10' h8' K := by rw [e0, e1]

def coxswainlaw30_WorldNone_g2 (v21 : AVal) (h22 : Heap) (K : AVal → Heap → Prop) : Prop :=
  gw v21 false (fun K => K .nilptr h22) h22 fun v23 h24 =>
  gw v21 false (fun K => cl n_world_World_Trace [v23] h24 fun v25 h26 => K v25 h26) h24 fun v27 h28 =>
  gw v21 false (fun K => rd h28 (.len .slice v27) fun v29 => K v29 h28) h28 fun v30 h31 =>
  gw v21 false (fun K => rd h31 (.bin .neq (some (.leaf .int)) v30 (.int .i64 0)) fun v32 => K v32 h31) h31 fun v33 h34 =>
  rd h34 (.pick v21 (.bool true) v33) fun v35 =>
  K v35 h34
theorem coxswainlaw30_WorldNone_g2_mono {v21 : AVal} {h22 : Heap} {K L : AVal → Heap → Prop} (hk : ∀ v h, K v h → L v h) (w : coxswainlaw30_WorldNone_g2 v21 h22 K) : coxswainlaw30_WorldNone_g2 v21 h22 L := (gw_mv_mono fun _ _ => (gw_cl_mono fun _ _ => (gw_rd_mono fun _ _ => (gw_rd_mono fun _ _ => (rd_mono fun _ => hk _ _))))) w
@[congr] theorem coxswainlaw30_WorldNone_g2_congr {v21 v21' : AVal} {h22 h22' : Heap} {K : AVal → Heap → Prop} (e0 : v21 = v21') (e1 : h22 = h22') {u : Unit} (_t : tokA = u) : coxswainlaw30_WorldNone_g2 v21 h22 K = coxswainlaw30_WorldNone_g2 v21' h22' K := by rw [e0, e1]

def coxswainlaw30_WorldNone_g3 (v43 : AVal) (v41 : AVal) (h40 : Heap) (K : AVal → Heap → Prop) : Prop :=
  gw v43 false (fun K => K v41 h40) h40 fun v44 h45 =>
  gw v43 false (fun K => rd h45 (.bin .eql (some (.leaf .ptr)) v44 .nilptr) fun v46 => K v46 h45) h45 fun v47 h48 =>
  rd h48 (.pick v43 (.bool true) v47) fun v49 =>
  K v49 h48
theorem coxswainlaw30_WorldNone_g3_mono {v43 : AVal} {v41 : AVal} {h40 : Heap} {K L : AVal → Heap → Prop} (hk : ∀ v h, K v h → L v h) (w : coxswainlaw30_WorldNone_g3 v43 v41 h40 K) : coxswainlaw30_WorldNone_g3 v43 v41 h40 L := (gw_mv_mono fun _ _ => (gw_rd_mono fun _ _ => (rd_mono fun _ => hk _ _))) w
@[congr] theorem coxswainlaw30_WorldNone_g3_congr {v43 v43' : AVal} {v41 v41' : AVal} {h40 h40' : Heap} {K : AVal → Heap → Prop} (e0 : v43 = v43') (e1 : v41 = v41') (e2 : h40 = h40') {u : Unit} (_t : tokA = u) : coxswainlaw30_WorldNone_g3 v43 v41 h40 K = coxswainlaw30_WorldNone_g3 v43' v41' h40' K := by rw [e0, e1, e2]

def coxswainlaw30_WorldNone_g4 (v60 : AVal) (v41 : AVal) (h58 : Heap) (K : AVal → Heap → Prop) : Prop :=
  gw v60 true (fun K => K v41 h58) h58 fun v61 h62 =>
  gw v60 true (fun K => cl n_world_World_Trace [v61] h62 fun v63 h64 => K v63 h64) h62 fun v65 h66 =>
  gw v60 true (fun K => rd h66 (.len .slice v65) fun v67 => K v67 h66) h66 fun v68 h69 =>
  gw v60 true (fun K => rd h69 (.bin .eql (some (.leaf .int)) v68 (.int .i64 0)) fun v70 => K v70 h69) h69 fun v71 h72 =>
  rd h72 (.pick v60 v71 (.bool false)) fun v73 =>
  K v73 h72
theorem coxswainlaw30_WorldNone_g4_mono {v60 : AVal} {v41 : AVal} {h58 : Heap} {K L : AVal → Heap → Prop} (hk : ∀ v h, K v h → L v h) (w : coxswainlaw30_WorldNone_g4 v60 v41 h58 K) : coxswainlaw30_WorldNone_g4 v60 v41 h58 L := (gw_mv_mono fun _ _ => (gw_cl_mono fun _ _ => (gw_rd_mono fun _ _ => (gw_rd_mono fun _ _ => (rd_mono fun _ => hk _ _))))) w
@[congr] theorem coxswainlaw30_WorldNone_g4_congr {v60 v60' : AVal} {v41 v41' : AVal} {h58 h58' : Heap} {K : AVal → Heap → Prop} (e0 : v60 = v60') (e1 : v41 = v41') (e2 : h58 = h58') {u : Unit} (_t : tokA = u) : coxswainlaw30_WorldNone_g4 v60 v41 h58 K = coxswainlaw30_WorldNone_g4 v60' v41' h58' K := by rw [e0, e1, e2]

def coxswainlaw30_WorldNone_g5 (v74 : AVal) (h75 : Heap) (K : AVal → Heap → Prop) : Prop :=
  gw v74 true (fun K => cl n_coxswainlaw30_awake [] h75 fun v76 h77 => K v76 h77) h75 fun v78 h79 =>
  rd h79 (.pick v74 v78 (.bool false)) fun v80 =>
  K v80 h79
theorem coxswainlaw30_WorldNone_g5_mono {v74 : AVal} {h75 : Heap} {K L : AVal → Heap → Prop} (hk : ∀ v h, K v h → L v h) (w : coxswainlaw30_WorldNone_g5 v74 h75 K) : coxswainlaw30_WorldNone_g5 v74 h75 L := (gw_cl_mono fun _ _ => (rd_mono fun _ => hk _ _)) w
@[congr] theorem coxswainlaw30_WorldNone_g5_congr {v74 v74' : AVal} {h75 h75' : Heap} {K : AVal → Heap → Prop} (e0 : v74 = v74') (e1 : h75 = h75') {u : Unit} (_t : tokA = u) : coxswainlaw30_WorldNone_g5 v74 h75 K = coxswainlaw30_WorldNone_g5 v74' h75' K := by rw [e0, e1]

/-- coxswain/coxswainlaw30.WorldNone -/
def coxswainlaw30_WorldNone (x0 x1 : AVal) (h : Heap) (Q : AVal → Heap → Prop) : Prop :=
  al h (.box x0) fun v0 h1 =>
  rd h1 (.loadN 6 v0) fun v2 =>
  cl n_coxswainlaw0_GreatConfig [v2] h1 fun v3 h4 =>
  br v3 (
  cl n_coxswainlaw30_awake [] h4 fun v5 h6 =>
  Q v5 h6) (
  cl n_world_World_Play [.nilptr, .nilslice, (.int .i64 5)] h4 fun v7 h8 =>
  rd h8 (.len .slice v7) fun v9 =>
  rd h8 (.bin .neq (some (.leaf .int)) v9 (.int .i64 0)) fun v10 =>
  coxswainlaw30_WorldNone_g1 v10 h8 fun v21 h22 =>
  coxswainlaw30_WorldNone_g2 v21 h22 fun v36 h37 =>
  br v36 (
  Q (.bool false) h37) (
  rd h37 (.loadN 6 v0) fun v38 =>
  cl n_world_New [v38] h37 fun v39 h40 =>
  rd h40 (.extract v39 0) fun v41 =>
  rd h40 (.extract v39 1) fun v42 =>
  rd h40 (.bin .neq (some (.leaf .int)) v42 (.int .i64 0)) fun v43 =>
  coxswainlaw30_WorldNone_g3 v43 v41 h40 fun v50 h51 =>
  br v50 (
  cl n_coxswainlaw30_awake [] h51 fun v52 h53 =>
  Q v52 h53) (
  cl n_coxswainlaw0_Low [x1, (.int .i64 1000)] h51 fun v54 h55 =>
  rd h55 (.un .neg v54) fun v56 =>
  cl n_world_World_Play [v41, .nilslice, v56] h55 fun v57 h58 =>
  rd h58 (.len .slice v57) fun v59 =>
  rd h58 (.bin .eql (some (.leaf .int)) v59 (.int .i64 0)) fun v60 =>
  coxswainlaw30_WorldNone_g4 v60 v41 h58 fun v74 h75 =>
  coxswainlaw30_WorldNone_g5 v74 h75 fun v81 h82 =>
  Q v81 h82)))
theorem coxswainlaw30_WorldNone_wp {x0 x1 : AVal} {h : Heap} {Q : AVal → Heap → Prop} (H : coxswainlaw30_WorldNone x0 x1 h Q) : cl n_coxswainlaw30_WorldNone [x0, x1] h Q :=
  wcl (vs := []) (fn := compFunc tb21 Tryz.f6) (by kernel_rfl) (by kernel_rfl) (by kernel_rfl : coxswainlaw30_WorldNone x0 x1 h Q = wpG cl [] (compFunc tb21 Tryz.f6) [x0, x1] h Q) H

end Go.AM
