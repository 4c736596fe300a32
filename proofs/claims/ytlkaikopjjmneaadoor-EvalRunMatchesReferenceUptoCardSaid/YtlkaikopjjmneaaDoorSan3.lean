/-
  WHAT IS PROVED HERE: the walk of the fixed examples of the statements (sane): it returns true. Condition: strconv's table.
-/
import Derived.Test.YtlkaikopjjmneaaDoorSan2
import Derived.Deep.DeepCutAuto
namespace Go.Proofs.YtlkaikopjjmneaaDoor
open Go.RowKit

set_option maxRecDepth 100000 in
set_option maxHeartbeats 4000000 in
theorem sane_any (w : World) (ht : Tab w) (h2 : 2 < w.heap.size) : Calls Tryd.prog 14 #[] w fun e w' => e = .returned (.bool true) ∧ Upd (fun _ => False) w w' := by
  have HT := Lib.hid ht
  clear ht
  go_enter Tryd.func14, Tryd.ntmps14
  go_upto_region 3 with fail
  go_cut [3] (fun s3 wx => s3 = .pointer (some ⟨w.heap.size + 8, 0, none⟩) ∧ Hid (SaneMem w.heap.size wx) ∧ Upd (fun _ => False) w wx)
  case first =>
    go_wp2_with fail
    go_meet
    refine ⟨rfl, Lib.hid ⟨h2, by (try simp) <;> omega, ?_, ?_, ?_, ?_, ?_, ?_, ?_, ?_, ?_, ?_⟩, by repeat (first | exact Upd.refl _ _ | apply Upd.alloc0)⟩
    case refine_10 => exact tab_upd HT.out (show Upd (fun _ => False) w _ by repeat (first | exact Upd.refl _ _ | apply Upd.alloc0)) h2 (fun f => f)
    all_goals repeat (first | exact ag_new (by (try simp) <;> omega) | refine ag_old (by (try simp) <;> omega) ?_)
  case rest =>
    obtain ⟨rfl, HS, hu⟩ := hcut
    go_wp2_with fail
    refine sane_r4 _ _ _ _ _ _ _ _ _ _ _ _ _ _ _ _ _ _ _ _ _ _ _ _ _ _ _ _ _ _ _ _ _ _ _ _ _ _ _ _ _ _ _ _ _ _ _ _ _ _ _ _ _ _ _ _ _ _ _ _ _ _ _ _ _ _ _ _ _ _ _ _ _ _ _ _ _ _ _ _ _ _ _ _ _ _ _ _ _ _ _ _ _ _ _ _ _ _ _ _ _ _ _ _ _ _ _ _ _ _ _ _ _ _ _ _ _ _ _ _ _ _ _ _ _ _ _ _ _ _ _ _ _ _ _ _ _ _ _ _ _ _ _ _ _ _ _ _ _ _ _ _ _ _ w _ HS hu _ ?_
    clear HS hu
    intro v36 v37 v38 v39 v40 v41 v42 v43 v44 v45 W4 HS hu
    go_wp2_with fail
    refine sane_r5 _ _ _ _ _ _ _ _ _ _ _ _ _ _ _ _ _ _ _ _ _ _ _ _ _ _ _ _ _ _ _ _ _ _ _ _ _ _ _ _ _ _ _ _ _ _ _ _ _ _ _ _ _ _ _ _ _ _ _ _ _ _ _ _ _ _ _ _ _ _ _ _ _ _ _ _ _ _ _ _ _ _ _ _ _ _ _ _ _ _ _ _ _ _ _ _ _ _ _ _ _ _ _ _ _ _ _ _ _ _ _ _ _ _ _ _ _ _ _ _ _ _ _ _ _ _ _ _ _ _ _ _ _ _ _ _ _ _ _ _ _ _ _ _ _ _ _ _ _ _ _ _ _ _ w _ HS hu _ ?_
    clear HS hu
    intro v46 v47 v48 v49 v50 v51 v52 v53 v54 v55 v56 v57 W5 HS hu
    go_wp2_with fail
    refine sane_r6 _ _ _ _ _ _ _ _ _ _ _ _ _ _ _ _ _ _ _ _ _ _ _ _ _ _ _ _ _ _ _ _ _ _ _ _ _ _ _ _ _ _ _ _ _ _ _ _ _ _ _ _ _ _ _ _ _ _ _ _ _ _ _ _ _ _ _ _ _ _ _ _ _ _ _ _ _ _ _ _ _ _ _ _ _ _ _ _ _ _ _ _ _ _ _ _ _ _ _ _ _ _ _ _ _ _ _ _ _ _ _ _ _ _ _ _ _ _ _ _ _ _ _ _ _ _ _ _ _ _ _ _ _ _ _ _ _ _ _ _ _ _ _ _ _ _ _ _ _ _ _ _ _ _ w _ HS hu _ ?_
    clear HS hu
    intro v58 v59 v60 v61 v62 v63 v64 v65 v66 v67 v68 v69 v70 W6 HS hu
    go_wp2_with fail
    refine sane_r7 _ _ _ _ _ _ _ _ _ _ _ _ _ _ _ _ _ _ _ _ _ _ _ _ _ _ _ _ _ _ _ _ _ _ _ _ _ _ _ _ _ _ _ _ _ _ _ _ _ _ _ _ _ _ _ _ _ _ _ _ _ _ _ _ _ _ _ _ _ _ _ _ _ _ _ _ _ _ _ _ _ _ _ _ _ _ _ _ _ _ _ _ _ _ _ _ _ _ _ _ _ _ _ _ _ _ _ _ _ _ _ _ _ _ _ _ _ _ _ _ _ _ _ _ _ _ _ _ _ _ _ _ _ _ _ _ _ _ _ _ _ _ _ _ _ _ _ _ _ _ _ _ _ _ w _ HS hu _ ?_
    clear HS hu
    intro v10 v71 v72 v73 v74 v75 v76 v77 v78 v79 W7 HS hu
    have hsz : w.heap.size + 1 + 1 + 1 + 1 + 1 < W7.heap.size := by have := HS.out.size; omega
    obtain ⟨k0, k1, k2⟩ := HS.out.c5
    go_upto_region 9 with (first
      | (go_at_call 15; refine (source_any _ _ _ _).mono ?_; rintro e w' ⟨rfl, rfl⟩)
      | (go_at_call 16; go_must (refine (sane_call5 (N := w.heap.size) (by repeat (first | exact HS.out | apply SaneMem.alloc | apply SaneMem.drew)) _ _ (by repeat (first | exact ag_new (by (try simp) <;> omega) | refine ag_old (by (try simp) <;> omega) ?_ | refine ag_drew ?_)) (by repeat (first | exact ag_new (by (try simp) <;> omega) | refine ag_old (by (try simp) <;> omega) ?_ | refine ag_drew ?_)) (by have := HS.out.size; (try simp) <;> omega) (by (try simp) <;> omega)).mono ?_); intro e w' hr; obtain ⟨g1, g2⟩ := hr.keep (N := w.heap.size) (w := w) (by repeat (first | exact HS.out | apply SaneMem.alloc | apply SaneMem.drew)) (by repeat (first | exact hu | apply Upd.alloc0 | apply Upd.drew0)) (by have := HS.out.size; (try simp) <;> omega) (Nat.le_refl _); have HS9 := Lib.hid g1; obtain ⟨rfl, _⟩ := hr))
    clear HS hu k0 k1 k2 hsz
    obtain ⟨HS, hu⟩ : Hid (SaneMem w.heap.size _) ∧ Upd (fun _ => False) w _ := ⟨HS9, g2⟩
    clear HS9 g2
    go_upto_region 10 with (go_at_call 16; go_must (refine (run_nil _).mono ?_); intro e w' hr; obtain ⟨rfl, hr⟩ := hr; have HS9 := Lib.hid (HS.out.upd hr (fun _ f => f.elim)); have g2 := hu.trans hr (fun _ f => f.elim); clear HS hu)
    obtain ⟨HS, hu⟩ : Hid (SaneMem w.heap.size _) ∧ Upd (fun _ => False) w _ := ⟨HS9, g2⟩
    clear HS9 g2
    go_upto_region 11 with (go_at_call 20; go_must (refine (filter_any _ _ (by decide) _ HS.out.tab).mono ?_); intro e w' hr; obtain ⟨he, hr⟩ := hr; rw [san6] at he; subst he; have hr0 := Upd.of_below0 hr; have HS9 := Lib.hid (HS.out.upd hr0 (fun _ f => f.elim)); have g2 := hu.trans hr0 (fun _ f => f.elim); clear HS hu; unfold fltRes)
    obtain ⟨HS, hu⟩ : Hid (SaneMem w.heap.size _) ∧ Upd (fun _ => False) w _ := ⟨HS9, g2⟩
    clear HS9 g2
    go_upto_region 12 with (go_at_call 20; go_must (refine (filter_any _ _ (by decide) _ HS.out.tab).mono ?_); intro e w' hr; obtain ⟨he, hr⟩ := hr; rw [san7] at he; subst he; have hr0 := Upd.of_below0 hr; have HS9 := Lib.hid (HS.out.upd hr0 (fun _ f => f.elim)); have g2 := hu.trans hr0 (fun _ f => f.elim); clear HS hu; unfold fltRes)
    obtain ⟨HS, hu⟩ : Hid (SaneMem w.heap.size _) ∧ Upd (fun _ => False) w _ := ⟨HS9, g2⟩
    clear HS9 g2
    go_upto_region 13 with (go_at_call 20; go_must (refine (filter_any _ _ (by decide) _ HS.out.tab).mono ?_); intro e w' hr; obtain ⟨he, hr⟩ := hr; rw [san8] at he; subst he; have hr0 := Upd.of_below0 hr; have HS9 := Lib.hid (HS.out.upd hr0 (fun _ f => f.elim)); have g2 := hu.trans hr0 (fun _ f => f.elim); clear HS hu; unfold fltRes)
    obtain ⟨HS, hu⟩ : Hid (SaneMem w.heap.size _) ∧ Upd (fun _ => False) w _ := ⟨HS9, g2⟩
    clear HS9 g2
    have hb6 : bs [116, 104, 101, 45, 109, 97, 121, 111, 114, 45, 115, 45, 118, 111, 116, 101] = ⟨#[116, 104, 101, 45, 109, 97, 121, 111, 114, 45, 115, 45, 118, 111, 116, 101]⟩ := rfl
    have hb7 : bs [84, 104, 101, 32, 99, 111, 117, 110, 99, 105, 108, 32, 118, 111, 116, 101, 100, 32, 111, 110, 32, 116, 104, 101, 32, 98, 114, 105, 100, 103, 101, 32, 108, 97, 115, 116, 46, 46, 46] = ⟨#[84, 104, 101, 32, 99, 111, 117, 110, 99, 105, 108, 32, 118, 111, 116, 101, 100, 32, 111, 110, 32, 116, 104, 101, 32, 98, 114, 105, 100, 103, 101, 32, 108, 97, 115, 116, 46, 46, 46]⟩ := rfl
    go_wp2_with fail
    go_ret
    exact ⟨rfl, hu⟩
end Go.Proofs.YtlkaikopjjmneaaDoor
