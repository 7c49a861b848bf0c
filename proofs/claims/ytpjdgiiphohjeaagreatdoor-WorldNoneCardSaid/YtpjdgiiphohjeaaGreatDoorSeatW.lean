import Derived.Test.YtpjdgiiphohjeaaGreatDoorSeatU
import Derived.Test.YtpjdgiiphohjeaaGreatDoorOwnDef
import Derived.Test.YtpjdgiiphohjeaaGreatDoorWpm
open Go Go.AM Go.Proofs
namespace Go.AM
def awakeB (args : List AVal) (h : Heap) : Option (AVal × Heap) := match args with
  | [] => some (.bool true, h)
  | _ => none
noncomputable def ownW : OwnT := fun f => match Nat.beq f 106, Nat.beq f 256, Nat.beq f 7 || Nat.beq f 21 with
  | true, _, _ => some ownerB
  | _, true, _ => some (sortedB [287, 342, 407])
  | _, _, true => some awakeB
  | _, _, _ => none
theorem ownW_up : OwnUp ownW := by
  intro f g hg args h v h' he
  unfold ownW at hg
  split at hg
  · cases hg
    unfold ownerB at he
    repeat' split at he
    all_goals first | (cases he; exact Nat.le_refl _) | cases he
  · cases hg
    unfold sortedB at he
    repeat' split at he
    all_goals first | (cases he; exact Nat.le_refl _) | (cases he; exact Nat.le_succ _) | cases he
  · cases hg
    unfold awakeB at he
    split at he <;> cases he
    exact Nat.le_refl _
  · cases hg
noncomputable def cl (f : FuncId) (args : List AVal) (h : Heap) (K : AVal → Heap → Prop) : Prop := WC fu21 ownW f args h K
theorem cl_mono {f : FuncId} {args : List AVal} {h : Heap} {K L : AVal → Heap → Prop} (hk : ∀ v h, K v h → L v h) (w : cl f args h K) : cl f args h L := WC.mono w hk
theorem cv_mono {f : AVal} {args : List AVal} {h : Heap} {K L : AVal → Heap → Prop} (hk : ∀ v h, K v h → L v h) (w : cv cl f args h K) : cv cl f args h L := by
  unfold cv at w ⊢
  split at w
  · exact cl_mono hk w
  · exact w
theorem gw_cl_mono {v : AVal} {b : Bool} {g : FuncId} {args : List AVal} {h : Heap} {K L : AVal → Heap → Prop} (hk : ∀ v h, K v h → L v h) (w : gw v b (fun K => cl g args h fun v h => K v h) h K) : gw v b (fun K => cl g args h fun v h => K v h) h L := gw_mono_ (cl_mono hk) hk w
theorem gw_cv_mono {v f : AVal} {b : Bool} {args : List AVal} {h : Heap} {K L : AVal → Heap → Prop} (hk : ∀ v h, K v h → L v h) (w : gw v b (fun K => cv cl f args h fun v h => K v h) h K) : gw v b (fun K => cv cl f args h fun v h => K v h) h L := gw_mono_ (cv_mono hk) hk w
theorem gp_cl_mono {v : AVal} {b : Bool} {g : FuncId} {args : List AVal} {h : Heap} {ps : List Past} {K L : AVal → Heap → List Past → Prop} (hk : ∀ v h p, K v h p → L v h p) (w : gp v b (fun K => cl g args h fun v h => K v h ps) h ps K) : gp v b (fun K => cl g args h fun v h => K v h ps) h ps L := gp_mono_ (cl_mono fun v h => hk v h ps) hk w
theorem wcl {f : FuncId} {fn : Option AFunc} {args : List AVal} {h : Heap} {Q : AVal → Heap → Prop} {vs : List Nat} {W : Prop} (h1 : ownW f = none) (h2 : fu21.get f = fn) (h3 : W = wpG cl vs fn args h Q) (H : W) : cl f args h Q := by
  rw [h3] at H
  cases fn with
  | none => cases H
  | some fn => exact wpF_sound fu21 ownW ownW_up vs h1 h2 H
abbrev n_coxswainlaw30_WorldNone : FuncId := 6
abbrev n_coxswainlaw29_awake : FuncId := 7
abbrev n_coxswainlaw0_Low : FuncId := 8
abbrev n_kern_New : FuncId := 9
abbrev n_kern_Kern_Tick : FuncId := 10
abbrev n_kern_Kern_Now : FuncId := 14
abbrev n_coxswainlaw0_GreatConfig : FuncId := 20
abbrev n_coxswainlaw30_awake : FuncId := 21
abbrev n_world_World_Play : FuncId := 22
abbrev n_world_World_Kern : FuncId := 23
abbrev n_world_World_Trace : FuncId := 24
abbrev n_world_New : FuncId := 25
abbrev n_admit_May : FuncId := 27
abbrev n_slices_Clone_slint_int_ : FuncId := 28
abbrev n_kern_Kern_begin : FuncId := 29
abbrev n_task_New : FuncId := 30
abbrev n_prog_Fix : FuncId := 31
abbrev n_task_Best : FuncId := 32
abbrev n_rank_New : FuncId := 33
abbrev n_locks_New : FuncId := 34
abbrev n_cond_New : FuncId := 35
abbrev n_wheel_New : FuncId := 36
abbrev n_line_New : FuncId := 37
abbrev n_dog_New : FuncId := 38
abbrev n_unix_New : FuncId := 39
abbrev n_unix_System_Start : FuncId := 40
abbrev n_coxswainlaw0_GreatOps : FuncId := 61
abbrev n_world_pick : FuncId := 64
abbrev n_world_World_Play_1 : FuncId := 65
abbrev n_slices_Clone_slapi_Ran_api_Ran_ : FuncId := 66
abbrev n_admit_within : FuncId := 67
abbrev n_admit_mayTask : FuncId := 68
abbrev n_slices_ContainsFunc_slint_int_ : FuncId := 69
abbrev n_admit_May_1 : FuncId := 70
abbrev n_task_fresh : FuncId := 71
abbrev n_prog_May : FuncId := 72
abbrev n_slices_ContainsFunc_slapi_Mutex_api_Mutex_ : FuncId := 73
abbrev n_rank_New_1 : FuncId := 74
abbrev n_rank_may : FuncId := 75
abbrev n_slices_Clone_slapi_Mutex_api_Mutex_ : FuncId := 76
abbrev n_frames_New : FuncId := 77
abbrev n_vfs_New : FuncId := 78
abbrev n_fd_New : FuncId := 79
abbrev n_pipe_New : FuncId := 80
abbrev n_slab_New : FuncId := 81
abbrev n_proc_New : FuncId := 82
abbrev n_proc_Procs_Start : FuncId := 83
abbrev n_fd_Fds_Start : FuncId := 84
abbrev n_task_Run : FuncId := 100
abbrev n_num_Clip : FuncId := 105
abbrev n_slices_Clone_slapi_Held_api_Held_ : FuncId := 108
abbrev n_admit_mayTask_1 : FuncId := 116
abbrev n_slices_IndexFunc_slint_int_ : FuncId := 117
abbrev n_prog_op : FuncId := 118
abbrev n_slices_IndexFunc_slapi_Mutex_api_Mutex_ : FuncId := 119
abbrev n_store_New : FuncId := 120
abbrev n_inode_New : FuncId := 121
abbrev n_frames_Frames_Take : FuncId := 122
abbrev n_frames_Frames_Give : FuncId := 123
abbrev n_proc_Procs_Alive : FuncId := 124
abbrev n_num_Add : FuncId := 130
abbrev n_task_Release : FuncId := 131
abbrev n_task_own : FuncId := 140
abbrev n_prog_none : FuncId := 162
abbrev n_prog_ticks : FuncId := 163
abbrev n_prog_mutex : FuncId := 164
abbrev n_prog_jump : FuncId := 165
abbrev n_prog_wait : FuncId := 166
abbrev n_prog_cond : FuncId := 167
abbrev n_prog_asks : FuncId := 168
abbrev n_task_May : FuncId := 183
abbrev n_task_thread_begin : FuncId := 184
abbrev n_task_Over : FuncId := 193
abbrev n_prog_within : FuncId := 215
abbrev n_prog_MayCall : FuncId := 216
abbrev n_task_End : FuncId := 238
abbrev n_prog_call : FuncId := 246
abbrev n_prog_open : FuncId := 266
abbrev n_prog_number : FuncId := 267
abbrev n_prog_bytes : FuncId := 268
abbrev n_prog_write : FuncId := 269
abbrev n_prog_two : FuncId := 270
abbrev n_prog_one : FuncId := 271
abbrev n_prog_bare : FuncId := 272
abbrev n_prog_fork : FuncId := 273
abbrev n_prog_exit : FuncId := 274
abbrev n_prog_path : FuncId := 305
end Go.AM
