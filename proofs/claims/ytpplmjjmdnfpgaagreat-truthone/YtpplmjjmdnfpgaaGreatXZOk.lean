/- The table is the program's. -/
import Derived.Test.YtpplmjjmdnfpgaaGreatXZTab
import Derived.Test.YtpplmjjmdnfpgaaGreatXZO0
import Derived.Test.YtpplmjjmdnfpgaaGreatXZO1
import Derived.Test.YtpplmjjmdnfpgaaGreatXZO2
import Derived.Test.YtpplmjjmdnfpgaaGreatXZO3
import Derived.Test.YtpplmjjmdnfpgaaGreatXZO4
import Derived.Test.YtpplmjjmdnfpgaaGreatXZO5
import Derived.Test.YtpplmjjmdnfpgaaGreatXZO6
set_option maxRecDepth 100000
set_option maxHeartbeats 0
namespace Go.Ab.Z
open Go Go.Ab Go.Proofs
theorem prim219 : PrimOk Tryz.prog 219 pIdx := pIdx_ok Tryz.func219 (by kernel_rfl) (by kernel_rfl) (by kernel_rfl) (by kernel_rfl)
theorem prim179 : PrimOk Tryz.prog 179 pCmp := pCmp_ok Tryz.func179 (by kernel_rfl) (by kernel_rfl) (by kernel_rfl) (by kernel_rfl)
theorem tr_ok : tr.all (fun f sf => ∃ own, FnOk Tryz.prog f sf own) := ⟨⟨⟨⟨⟨⟨⟨⟨trivial, ok2, trivial⟩, ok3, ⟨trivial, ok4, trivial⟩⟩, ok5, ⟨⟨trivial, ok6, trivial⟩, ok7, trivial⟩⟩, ok8, ⟨⟨⟨trivial, ok9, trivial⟩, ok11, ⟨trivial, ok12, trivial⟩⟩, ok13, ⟨⟨trivial, ok14, trivial⟩, ok15, trivial⟩⟩⟩, ok16, ⟨⟨⟨⟨trivial, ok17, trivial⟩, ok18, ⟨trivial, ok19, trivial⟩⟩, ok20, ⟨⟨trivial, ok21, trivial⟩, ok22, trivial⟩⟩, ok23, ⟨⟨⟨trivial, ok24, trivial⟩, ok25, ⟨trivial, ok26, trivial⟩⟩, ok27, ⟨⟨trivial, ok28, trivial⟩, ok29, trivial⟩⟩⟩⟩, ok30, ⟨⟨⟨⟨⟨trivial, ok31, trivial⟩, ok32, ⟨trivial, ok33, trivial⟩⟩, ok34, ⟨⟨trivial, ok35, trivial⟩, ok36, trivial⟩⟩, ok37, ⟨⟨⟨trivial, ok38, trivial⟩, ok39, ⟨trivial, ok40, trivial⟩⟩, ok41, ⟨⟨trivial, ok42, trivial⟩, ok43, trivial⟩⟩⟩, ok44, ⟨⟨⟨⟨trivial, ok45, trivial⟩, ok46, ⟨trivial, ok47, trivial⟩⟩, ok48, ⟨⟨trivial, ok49, trivial⟩, ok50, trivial⟩⟩, ok51, ⟨⟨⟨trivial, ok52, trivial⟩, ok53, trivial⟩, ok54, ⟨⟨trivial, ok55, trivial⟩, ok56, trivial⟩⟩⟩⟩⟩, ok57, ⟨⟨⟨⟨⟨⟨trivial, ok59, trivial⟩, ok60, ⟨trivial, ok61, trivial⟩⟩, ok62, ⟨⟨trivial, ok63, trivial⟩, ok64, trivial⟩⟩, ok65, ⟨⟨⟨trivial, ok66, trivial⟩, ok67, ⟨trivial, ok68, trivial⟩⟩, ok69, ⟨⟨trivial, ok70, trivial⟩, ok71, trivial⟩⟩⟩, ok72, ⟨⟨⟨⟨trivial, ok73, trivial⟩, ok74, ⟨trivial, ok75, trivial⟩⟩, ok76, ⟨⟨trivial, ok77, trivial⟩, ok78, trivial⟩⟩, ok79, ⟨⟨⟨trivial, ok80, trivial⟩, ok81, trivial⟩, ok82, ⟨⟨trivial, ok83, trivial⟩, ok84, trivial⟩⟩⟩⟩, ok85, ⟨⟨⟨⟨⟨trivial, ok86, trivial⟩, ok87, ⟨trivial, ok88, trivial⟩⟩, ok89, ⟨⟨trivial, ok90, trivial⟩, ok91, trivial⟩⟩, ok92, ⟨⟨⟨trivial, ok93, trivial⟩, ok94, ⟨trivial, ok95, trivial⟩⟩, ok96, ⟨⟨trivial, ok97, trivial⟩, ok98, trivial⟩⟩⟩, ok99, ⟨⟨⟨⟨trivial, ok100, trivial⟩, ok101, ⟨trivial, ok102, trivial⟩⟩, ok103, ⟨⟨trivial, ok104, trivial⟩, ok105, trivial⟩⟩, ok106, ⟨⟨⟨trivial, ok107, trivial⟩, ok108, trivial⟩, ok109, ⟨⟨trivial, ok110, trivial⟩, ok111, trivial⟩⟩⟩⟩⟩⟩, ok112, ⟨⟨⟨⟨⟨⟨⟨trivial, ok113, trivial⟩, ok114, ⟨trivial, ok115, trivial⟩⟩, ok116, ⟨⟨trivial, ok117, trivial⟩, ok118, trivial⟩⟩, ok119, ⟨⟨⟨trivial, ok120, trivial⟩, ok121, ⟨trivial, ok122, trivial⟩⟩, ok123, ⟨⟨trivial, ok124, trivial⟩, ok125, trivial⟩⟩⟩, ok126, ⟨⟨⟨⟨trivial, ok127, trivial⟩, ok128, ⟨trivial, ok129, trivial⟩⟩, ok130, ⟨⟨trivial, ok131, trivial⟩, ok132, trivial⟩⟩, ok133, ⟨⟨⟨trivial, ok134, trivial⟩, ok135, trivial⟩, ok136, ⟨⟨trivial, ok137, trivial⟩, ok138, trivial⟩⟩⟩⟩, ok139, ⟨⟨⟨⟨⟨trivial, ok140, trivial⟩, ok141, ⟨trivial, ok142, trivial⟩⟩, ok143, ⟨⟨trivial, ok145, trivial⟩, ok146, trivial⟩⟩, ok147, ⟨⟨⟨trivial, ok148, trivial⟩, ok149, ⟨trivial, ok150, trivial⟩⟩, ok151, ⟨⟨trivial, ok152, trivial⟩, ok153, trivial⟩⟩⟩, ok154, ⟨⟨⟨⟨trivial, ok155, trivial⟩, ok156, ⟨trivial, ok157, trivial⟩⟩, ok158, ⟨⟨trivial, ok159, trivial⟩, ok160, trivial⟩⟩, ok161, ⟨⟨⟨trivial, ok162, trivial⟩, ok163, trivial⟩, ok164, ⟨⟨trivial, ok165, trivial⟩, ok166, trivial⟩⟩⟩⟩⟩, ok167, ⟨⟨⟨⟨⟨⟨trivial, ok168, trivial⟩, ok169, ⟨trivial, ok170, trivial⟩⟩, ok171, ⟨⟨trivial, ok172, trivial⟩, ok173, trivial⟩⟩, ok174, ⟨⟨⟨trivial, ok175, trivial⟩, ok176, ⟨trivial, ok177, trivial⟩⟩, ok178, ⟨⟨trivial, ok180, trivial⟩, ok181, trivial⟩⟩⟩, ok182, ⟨⟨⟨⟨trivial, ok183, trivial⟩, ok184, ⟨trivial, ok185, trivial⟩⟩, ok186, ⟨⟨trivial, ok187, trivial⟩, ok188, trivial⟩⟩, ok189, ⟨⟨⟨trivial, ok190, trivial⟩, ok191, trivial⟩, ok192, ⟨⟨trivial, ok193, trivial⟩, ok194, trivial⟩⟩⟩⟩, ok195, ⟨⟨⟨⟨⟨trivial, ok196, trivial⟩, ok197, ⟨trivial, ok198, trivial⟩⟩, ok199, ⟨⟨trivial, ok200, trivial⟩, ok201, trivial⟩⟩, ok202, ⟨⟨⟨trivial, ok203, trivial⟩, ok204, ⟨trivial, ok205, trivial⟩⟩, ok206, ⟨⟨trivial, ok207, trivial⟩, ok208, trivial⟩⟩⟩, ok209, ⟨⟨⟨⟨trivial, ok210, trivial⟩, ok211, ⟨trivial, ok213, trivial⟩⟩, ok214, ⟨⟨trivial, ok215, trivial⟩, ok216, trivial⟩⟩, ok217, ⟨⟨⟨trivial, ok218, trivial⟩, ok221, trivial⟩, ok222, ⟨⟨trivial, ok224, trivial⟩, ok225, trivial⟩⟩⟩⟩⟩⟩⟩
theorem tb_ok : TblOk Tryz.prog tb where
  mixed := by kernel_rfl
  fn := fun f sf h => Tr.all_find tr_ok h
  prim := fun f p h => by
    simp only [tb, prims] at h
    by_cases h219 : f = 219
    · subst h219; (have h : some _ = some p := h); injection h with h; subst h; exact prim219
    · have e219 : Nat.beq f 219 = false := by
        cases hb : Nat.beq f 219
        · rfl
        · exact absurd (Nat.eq_of_beq_eq_true hb) h219
      rw [e219] at h; simp only [cond_false] at h
      by_cases h179 : f = 179
      · subst h179; (have h : some _ = some p := h); injection h with h; subst h; exact prim179
      · have e179 : Nat.beq f 179 = false := by
          cases hb : Nat.beq f 179
          · rfl
          · exact absurd (Nat.eq_of_beq_eq_true hb) h179
        rw [e179] at h; simp only [cond_false] at h
        cases h
  sprim := fun f p h => by cases h
end Go.Ab.Z
