import Derived.Test.YtpjdgiiphohjeaaGreatDoorWp1
import Derived.IntWalk
/-! What comes behind may be weakened; a token for simp's steps. -/
namespace Go.AM
/-- A token: so that simp takes a step by the rules that bear it, even if nothing else turns, and never looks at what comes behind. -/
def tokA : Unit := ()
def tokB : Unit := ()
@[simp, go_sem] theorem tokA_eq : tokA = tokB := Subsingleton.elim _ _

section
variable {h : Heap} {o : AOp AVal} {f v : AVal} {g : FuncId} {args : List AVal} {b : Bool} {ps : List Past}
theorem rd_mono {K L : AVal → Prop} (hk : ∀ v, K v → L v) (w : rd h o K) : rd h o L := let ⟨v, e, k⟩ := w; ⟨v, e, hk v k⟩
theorem al_mono {K L : AVal → Heap → Prop} (hk : ∀ v h, K v h → L v h) (w : al h o K) : al h o L := let ⟨a, m, e, k⟩ := w; ⟨a, m, e, hk _ _ k⟩
theorem wr_mono {K L : AVal → Heap → Prop} (hk : ∀ v h, K v h → L v h) (w : wr h o K) : wr h o L := let ⟨a, m, e, k⟩ := w; ⟨a, m, e, hk _ _ k⟩
theorem gw_mono_ {A : (AVal → Heap → Prop) → Prop} {K L : AVal → Heap → Prop} (ha : A K → A L) (hk : ∀ v h, K v h → L v h) (w : gw v b A h K) : gw v b A h L := ⟨fun e => ha (w.1 e), fun e => hk _ _ (w.2 e)⟩
theorem gw_rd_mono {K L : AVal → Heap → Prop} (hk : ∀ v h, K v h → L v h) (w : gw v b (fun K => rd h o fun v => K v h) h K) : gw v b (fun K => rd h o fun v => K v h) h L := gw_mono_ (rd_mono fun v => hk v h) hk w
theorem gw_mv_mono {x : AVal} {K L : AVal → Heap → Prop} (hk : ∀ v h, K v h → L v h) (w : gw v b (fun K => K x h) h K) : gw v b (fun K => K x h) h L := gw_mono_ (hk x h) hk w
theorem gw_al_mono {K L : AVal → Heap → Prop} (hk : ∀ v h, K v h → L v h) (w : gw v b (fun K => al h o fun v h => K v h) h K) : gw v b (fun K => al h o fun v h => K v h) h L := gw_mono_ (al_mono hk) hk w
theorem gw_wr_mono {K L : AVal → Heap → Prop} (hk : ∀ v h, K v h → L v h) (w : gw v b (fun K => wr h o fun v h => K v h) h K) : gw v b (fun K => wr h o fun v h => K v h) h L := gw_mono_ (wr_mono hk) hk w
theorem gp_mono_ {A : (AVal → Heap → List Past → Prop) → Prop} {K L : AVal → Heap → List Past → Prop} (ha : A K → A L) (hk : ∀ v h p, K v h p → L v h p) (w : gp v b A h ps K) : gp v b A h ps L := ⟨fun e => ha (w.1 e), fun e => hk _ _ _ (w.2 e)⟩
theorem gp_rd_mono {q : AVal → List Past} {K L : AVal → Heap → List Past → Prop} (hk : ∀ v h p, K v h p → L v h p) (w : gp v b (fun K => rd h o fun v => K v h (q v)) h ps K) : gp v b (fun K => rd h o fun v => K v h (q v)) h ps L := gp_mono_ (rd_mono fun v => hk v h _) hk w
theorem gp_mv_mono {x : AVal} {K L : AVal → Heap → List Past → Prop} (hk : ∀ v h p, K v h p → L v h p) (w : gp v b (fun K => K x h ps) h ps K) : gp v b (fun K => K x h ps) h ps L := gp_mono_ (hk x h ps) hk w
theorem gp_al_mono {K L : AVal → Heap → List Past → Prop} (hk : ∀ v h p, K v h p → L v h p) (w : gp v b (fun K => al h o fun v h => K v h ps) h ps K) : gp v b (fun K => al h o fun v h => K v h ps) h ps L := gp_mono_ (al_mono fun v h => hk v h ps) hk w
end
end Go.AM
