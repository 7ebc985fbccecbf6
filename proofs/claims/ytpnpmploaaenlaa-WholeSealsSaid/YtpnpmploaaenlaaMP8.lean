/- A text's tag: the walk. -/
import Derived.Test.YtpnpmploaaenlaaMP6
import Derived.Test.YtpnpmploaaenlaaMN2
namespace Go.Proofs.Ytpnpmploaaenlaa
open Go.RowKit
set_option linter.unusedSimpArgs false
set_option linter.unusedVariables false

theorem exec_load_row {w : World} {g : Nat} {f : Nat → Nat} {a : Act} {o : Oper} {x : Operand} (ho : o.op = .load 61 x) (hx : a.eval x = .pointer (some ⟨g, 0, none⟩)) (h : Num w g f) : (execOp a.eval o).run Try.prog w = .ok (.value (.agg (fiveV f))) w := by
  unfold execOp
  simp only [ho, hx, Instr.loadAt, Instr.sureAddr, Sem.run_bind, Sem.run_pure, Result.andThen_ok, run_loadVar_row w g 61 61 (fiveV f) (0, 0) _ h Try.underlying61 rfl (by kernel_rfl)]
theorem exec_store_row {w : World} {g : Nat} {f f' : Nat → Nat} {a : Act} {o : Oper} {x y : Operand} (ho : o.op = .store 61 x y) (hx : a.eval x = .pointer (some ⟨g, 0, none⟩)) (h : Num w g f) (hy : a.eval y = .agg (fiveV f')) : (execOp a.eval o).run Try.prog w = .ok .skip (w.setRow g (fiveV f')) := by
  unfold execOp
  simp only [ho, hx, hy, Instr.storeAt, Instr.sureAddr, Sem.run_bind, Sem.run_pure, Result.andThen_ok, run_storeVar_row (P := Try.prog) w g 61 61 (fiveV f) (fiveV f') h (by kernel_rfl) rfl (five_one f')]
theorem macA_lt (s : ByteArray) (r k : Nat) : macA s r k < P130 := by
  cases k with
  | zero => exact P_pos
  | succ k => exact Nat.mod_lt _ P_pos
theorem Num.rowOther {w : World} {g k : Nat} {f : Nat → Nat} (h : Num w g f) (hne : g ≠ k) (cs : Array Value) : Num (w.setRow k cs) g f := (setRow_other w k g cs hne).trans h
theorem clS_size (s : ByteArray) : (clS s).size = 16 := by show ((List.range 16).map (clB s)).toArray.size = 16; simp
/-- The tag. -/
def macS (key s : ByteArray) : ByteArray := leS (macA s (leN (clS (key.extract 0 16)) 16) (blocks s) + leN (key.extract 16 32) 16) 16
theorem mac_bad (key s : ByteArray) (w : World) (h : key.size ≠ 32 ∨ 65536 < s.size) :
    Calls Try.prog 24 #[.string key, .string s] w fun e w' => e = .returned (.tuple #[.string ⟨#[]⟩, .int .i64 1]) ∧ w = w' := by
  by_cases h1 : key.size = 32
  · have hne : (((key.size : Nat) : Int) != 32) = false := by rw [bne_eq_false_iff_eq]; omega
    have hl : (65536 : Int) < ((s.size : Nat) : Int) := by omega
    clear h
    go_enter Try.func24, Try.ntmps24
    go_wp2_with fail
    go_ret2
    exact ⟨rfl, rfl⟩
  · have hne : (((key.size : Nat) : Int) != 32) = true := by rw [bne_iff_ne]; omega
    clear h
    go_enter Try.func24, Try.ntmps24
    go_wp2_with fail
    go_ret2
    exact ⟨rfl, rfl⟩
theorem empty_of_size (s : ByteArray) (h : s.size = 0) : s = ByteArray.empty := by
  apply bytes_ext
  · rw [h]; rfl
  · intro j hj; omega
theorem mod_step2 (a b c r p : Nat) (h : a % p = b % p) : (a + c) * r % p = (b + c) * r % p := by
  rw [Nat.mul_mod, Nat.add_mod a, h, ← Nat.add_mod, ← Nat.mul_mod]
set_option maxRecDepth 100000 in
set_option maxHeartbeats 4000000 in
theorem mac_ok (key s : ByteArray) (w : World) (hk : key.size = 32) (hs : s.size ≤ 65536) :
    Calls Try.prog 24 #[.string key, .string s] w fun e w' => e = .returned (.tuple #[.string (macS key s), .int .i64 0]) ∧ Mod (fun _ => False) w w' := by
  have hne : (((key.size : Nat) : Int) != 32) = false := by rw [bne_eq_false_iff_eq]; omega
  have hl : ¬ (65536 : Int) < ((s.size : Nat) : Int) := by omega
  have hk16 : (16 : Int) ≤ ((key.size : Nat) : Int) := by omega
  have HKE : Hid ((key.extract 0 16).size = 16) := by show _ = _; simp; omega
  have HKF : Hid ((key.extract 16 key.size).size = 16) := by show _ = _; simp; omega
  have HK := Lib.hid hk
  clear hk
  go_enter Try.func24, Try.ntmps24
  go_wp2_with fail
  refine (clamp_ok _ _ HKE.out).mono ?_
  rintro e w1 ⟨rfl, m1⟩
  obtain ⟨cl, hcl⟩ : ∃ cl, cl = clS (key.extract 0 16) := ⟨_, rfl⟩
  rw [← hcl]
  have HCL := Lib.hid hcl
  have HCS : Hid (cl.size = 16) := by show _ = _; rw [hcl, clS_size]
  clear hcl
  go_wp2_with fail
  refine (read_any cl (by have := HCS.out; omega) (by rw [byteAt_beyond _ _ (by have := HCS.out; omega)]; omega) _).mono ?_
  rintro e w2 ⟨⟨R, rfl, hRv, hRl⟩, m2⟩
  rw [HCS.out] at hRv
  have HRv := Lib.hid hRv
  have HRl := Lib.hid hRl
  have HM2 := Lib.hid (m1.tr m2)
  clear m1 m2 hRv hRl
  go_wp2_with fail
  obtain ⟨gr, hgr⟩ : ∃ gr, gr = w2.heap.size := ⟨_, rfl⟩
  obtain ⟨ga, hga⟩ : ∃ ga, ga = gr + 1 := ⟨_, rfl⟩
  rw [← hgr, ← hga]
  have HGR := Lib.hid hgr
  have HGA := Lib.hid hga
  have HBW : Hid (w.heap.size ≤ gr) := by show _ ≤ _; rw [HGR.out]; exact HM2.out.size
  clear hgr hga
  go_loopw [1] (fun t wr => ∃ (k : Nat) (F : Nat → Nat), Hid (k ≤ blocks s) ∧ t = .string (rest s k) ∧ Num wr gr R ∧ Num wr ga F ∧ (∀ j, j < 5 → F j < 134217728) ∧ val F % P130 = macA s (leN cl 16) k % P130 ∧ Mod (fun _ => False) w wr) (fun t _ => match t with | .string b => b.size | _ => 0)
  case atStart =>
    refine ⟨0, fun _ => 0, Nat.zero_le _, by rw [rest_zero], ?_, ?_, fun _ _ => by show 0 < _; omega, rfl, (HM2.out.alloc _).alloc _⟩
    · exact (Num.new w2 R _ HGR.out).alloc _
    · exact Num.new _ (fun _ => 0) _ (by rw [HGA.out, HGR.out]; simp)
  case round =>
    obtain ⟨k, F, HKB, rfl, n0, n1, hFl, hFv, hm⟩ := hrel
    have HNR := Lib.hid n0
    have HNA := Lib.hid n1
    have HFl := Lib.hid hFl
    have HFv := Lib.hid hFv
    have HM := Lib.hid hm
    have HRS := Lib.hid (rest_size s k)
    clear n0 n1 hFl hFv hm
    by_cases hlt : 16 * k < s.size
    · have HLT := Lib.hid hlt
      clear hlt
      have hts : 0 < (rest s k).size := by have := HRS.out; have := HLT.out; omega
      have he1 : (rest s k).toList.isEmpty = false := by
        rw [Lib.toList_data, List.isEmpty_eq_false_iff]
        intro e
        have : (rest s k).data.toList.length = 0 := by rw [e]; rfl
        have h2 : (rest s k).data.toList.length = (rest s k).size := by simp
        omega
      have he2 : ¬ (rest s k).toList = [] := by
        intro e; rw [e] at he1; exact absurd he1 (by decide)
      have HBN : Hid (bn s k = min 16 (rest s k).size) := by show _ = _; rw [HRS.out]; rfl
      generalize hT : rest s k = T at *
      have HT := Lib.hid hT
      clear hT
      by_cases h16 : T.size < 16
      · have h16' : ((T.size : Nat) : Int) < 16 := by omega
        have HBN2 : Hid (bn s k = T.size) := by show _ = _; rw [HBN.out]; omega
        obtain ⟨u, HU⟩ : ∃ u, Hid (T ++ ⟨#[1]⟩ = u) := ⟨_, rfl⟩
        have HUE : Hid (u = (rest s k).extract 0 (bn s k) ++ one1) := by show _ = _; rw [HBN2.out, HT.out, ← HU.out, show T.extract 0 T.size = T by simp]; rfl
        have HUS : Hid (u.size = T.size + 1) := by show _ = _; rw [HUE.out, blk_size _ _ _ (by rw [HBN2.out, HT.out]; omega), HBN2.out]
        have HUT : Hid (byteAt u 16 < 4) := by show byteAt u 16 < 4; rw [HUE.out]; exact blk_top s k
        have HUN : Hid (leN u (T.size + 1) = blkN s k) := by show _ = _; rw [← blk_num, HBN2.out, HUE.out, HBN2.out]
        have HKB2 : Hid (k + 1 ≤ blocks s) := by show k + 1 ≤ (s.size + 15) / 16; have := HLT.out; omega
        have HREST : Hid (rest s (k + 1) = ByteArray.empty) := by
          show _ = _
          apply empty_of_size; rw [rest_size]; have := HRS.out; omega
        have hTT : T.extract T.size T.size = ByteArray.empty := empty_of_size _ (by simp)
        have HS8 : Hid (Num wr.drew gr R ∧ Mod (fun _ => False) w wr.drew) := ⟨HNR.out.drew, HM.out.drew⟩
        replace HNA := Lib.hid HNA.out.drew
        have HTS : Hid (T.size ≤ 65536) := by show _ ≤ _; have := HRS.out; omega
        go_upto_region 8 with fail
        refine wp_region_held_drew (S := (fun W => Num W gr R ∧ Mod (fun _ => False) w W)) (by kernel_rfl) HS8.out (fun hHeld => ?_)
        refine held_take 1 33 (v := ?_) rfl rfl (by kernel_rfl) (by kernel_rfl) (by kernel_rfl) (fun _ _ _ _ h => h) (by rfl) ?_ hHeld ?_
        rotate_left; · (intro w hSw; clear hSw; go_simp; first | done | with_reducible rfl)
        simp only [List.setIfInBounds_toArray, List.set_cons_zero, List.set_cons_succ]
        refine held_take 2 34 (v := ?_) rfl rfl (by kernel_rfl) (by kernel_rfl) (by kernel_rfl) (fun _ _ _ _ h => h) (by rfl) ?_ hHeld ?_
        rotate_left; · (intro w hSw; clear hSw; go_simp; first | done | with_reducible rfl)
        simp only [List.setIfInBounds_toArray, List.set_cons_zero, List.set_cons_succ]
        refine held_take 3 35 (v := .string (T)) rfl rfl (by kernel_rfl) (by kernel_rfl) (by kernel_rfl) (fun _ _ _ _ h => h) (by rfl) ?_ hHeld ?_
        · (intro W hSW; clear hSW; go_simp; first | done | with_reducible rfl)
        simp only [List.setIfInBounds_toArray, List.set_cons_zero, List.set_cons_succ]
        refine held_take 4 36 (v := .string u) rfl rfl (by kernel_rfl) (by kernel_rfl) (by kernel_rfl) (fun _ _ _ _ h => h) (by rfl) ?_ hHeld ?_
        · (intro W hSW; clear hSW; go_simp; first | done | (rw [HU.out]; done) | (rw [if_neg (by have := HTS.out; first | omega | (simp; omega)), HU.out]; done))
        simp only [List.setIfInBounds_toArray, List.set_cons_zero, List.set_cons_succ]
        refine held_take 7 39 (v := .agg (fiveV R)) rfl rfl (by kernel_rfl) (by kernel_rfl) (by kernel_rfl) (fun _ _ _ _ h => h) (by rfl) ?_ hHeld ?_
        · (intro W hSW; exact exec_load_row rfl rfl hSW.1)
        simp only [List.setIfInBounds_toArray, List.set_cons_zero, List.set_cons_succ]
        refine wpAnyH_ready (rs := [0, 5]) (by kernel_rfl) (by simp) ?_
        refine all_make 0 32 rfl rfl (by rfl) (v := .agg (fiveV F)) (w' := wr.drew) ?_ ?_ (fun hNew => ?_) ?_
        · (exact exec_load_row rfl rfl HNA.out)
        · exact hHeld
        ·
          clear hHeld; have hHeld := hNew; clear hNew
          simp only [List.setIfInBounds_toArray, List.set_cons_zero, List.set_cons_succ]
          refine held_call 5 37 rfl rfl (by kernel_rfl) (by rfl) (f := 40) (args := ?_) ?_ ?_
          rotate_left; · (go_simp; first | done | with_reducible rfl)
          refine (read_any u (by rw [HUS.out]; omega) HUT.out _).mono ?_
          rintro e w1 ⟨⟨G, rfl, hGv, hGl⟩, m15⟩
          have HG := Lib.hid (And.intro hGv hGl)
          replace HNA := Lib.hid (HNA.out.kept m15 (fun e => e))
          clear hGv hGl
          refine ⟨_, rfl, ⟨hHeld.1.kept m15 (fun e => e), hHeld.2.tr m15⟩, fun hNew => ?_⟩; clear hHeld; have hHeld := hNew; clear hNew
          simp only [List.setIfInBounds_toArray, List.set_cons_zero, List.set_cons_succ]
          refine held_call 6 38 rfl rfl (by kernel_rfl) (by rfl) (f := 41) (args := ?_) ?_ ?_
          rotate_left; · (go_simp; first | done | with_reducible rfl)
          refine (add_any F G (fun j hj => by have := HFl.out j hj; have := HG.out.2 j hj; omega) _).mono ?_
          rintro e w2 ⟨rfl, m16⟩
          replace HNA := Lib.hid (HNA.out.kept m16 (fun e => e))
          refine ⟨_, rfl, ⟨hHeld.1.kept m16 (fun e => e), hHeld.2.tr m16⟩, fun hNew => ?_⟩; clear hHeld; have hHeld := hNew; clear hNew
          simp only [List.setIfInBounds_toArray, List.set_cons_zero, List.set_cons_succ]
          refine held_call 8 40 rfl rfl (by kernel_rfl) (by rfl) (f := 42) (args := ?_) ?_ ?_
          rotate_left; · (go_simp; first | done | with_reducible rfl)
          refine (times_any (fun j => F j + G j) R (fun j hj => by have := HFl.out j hj; have := HG.out.2 j hj; omega) (fun j hj => by have := HRl.out j hj; omega) _).mono ?_
          rintro e w3 ⟨rfl, m17⟩
          replace HNA := Lib.hid (HNA.out.kept m17 (fun e => e))
          refine ⟨_, rfl, ⟨hHeld.1.kept m17 (fun e => e), hHeld.2.tr m17⟩, fun hNew => ?_⟩; clear hHeld; have hHeld := hNew; clear hNew
          simp only [List.setIfInBounds_toArray, List.set_cons_zero, List.set_cons_succ]
          refine held_store 9 rfl rfl (by kernel_rfl) (by rfl) (w' := w3.setRow ga (fiveV (carR fun k => col (fun j => F j + G j) R k 5))) ?_ ?_ (fun hNew => ?_)
          · (exact exec_store_row rfl rfl HNA.out rfl)
          · exact ⟨hHeld.1.rowOther (by have := HGA.out; omega) _, hHeld.2.row (fun hh => by have := HGA.out; have := HBW.out; omega) _⟩
          clear hHeld; have hHeld := hNew; clear hNew
          refine wpAnyH_done (by kernel_rfl) ?_ _
          have HG2 := Lib.hid hHeld
          clear hHeld
          have hG2v := HG.out.1
          rw [HUS.out, HUN.out] at hG2v
          have hlim := car_times (fun j => F j + G j) R (fun j hj => by have := HFl.out j hj; have := HG.out.2 j hj; omega) (fun j hj => by have := HRl.out j hj; omega)
          have HNEW := Lib.hid (HNA.out.row (carR fun k => col (fun j => F j + G j) R k 5))
          have HLIM : Hid (∀ j, j < 5 → (carR fun k => col (fun j => F j + G j) R k 5) j < 134217728) := fun j hj => by have := hlim.all j hj; omega
          have HVAL : Hid (val (carR fun k => col (fun j => F j + G j) R k 5) % P130 = macA s (leN cl 16) (k + 1) % P130) := by
            show _ = _
            rw [car_mod, val_times, val_add, hG2v]
            show _ = (macA s (leN cl 16) k + blkN s k) * leN cl 16 % P130 % P130
            rw [Nat.mod_mod, HRv.out]
            exact mod_step2 _ _ _ _ _ HFv.out
          clear hG2v hlim
          go_wp2_with fail
          go_roundw
          case rel => exact ⟨k + 1, _, HKB2.out, (by rw [HREST.out]), HG2.out.1, HNEW.out, HLIM.out, HVAL.out, HG2.out.2⟩
          case measure => simp; omega
        refine all_call 5 37 rfl rfl (by rfl) (f := 40) (args := ?_) ?_ ?_ AllReadyH.nil
        rotate_left; · (go_simp; first | done | with_reducible rfl)
        refine (read_any u (by rw [HUS.out]; omega) HUT.out _).mono ?_
        rintro e w1 ⟨⟨G, rfl, hGv, hGl⟩, m15⟩
        have HG := Lib.hid (And.intro hGv hGl)
        replace HNA := Lib.hid (HNA.out.kept m15 (fun e => e))
        clear hGv hGl
        refine ⟨_, rfl, ⟨hHeld.1.kept m15 (fun e => e), hHeld.2.tr m15⟩, fun hNew => ?_⟩; clear hHeld; have hHeld := hNew; clear hNew
        simp only [List.setIfInBounds_toArray, List.set_cons_zero, List.set_cons_succ]
        refine held_make 0 32 rfl rfl (by kernel_rfl) (by rfl) (v := .agg (fiveV F)) (w' := w1) ?_ ?_ (fun hNew => ?_)
        · (exact exec_load_row rfl rfl HNA.out)
        · exact hHeld
        clear hHeld; have hHeld := hNew; clear hNew
        simp only [List.setIfInBounds_toArray, List.set_cons_zero, List.set_cons_succ]
        refine held_call 6 38 rfl rfl (by kernel_rfl) (by rfl) (f := 41) (args := ?_) ?_ ?_
        rotate_left; · (go_simp; first | done | with_reducible rfl)
        refine (add_any F G (fun j hj => by have := HFl.out j hj; have := HG.out.2 j hj; omega) _).mono ?_
        rintro e w2 ⟨rfl, m16⟩
        replace HNA := Lib.hid (HNA.out.kept m16 (fun e => e))
        refine ⟨_, rfl, ⟨hHeld.1.kept m16 (fun e => e), hHeld.2.tr m16⟩, fun hNew => ?_⟩; clear hHeld; have hHeld := hNew; clear hNew
        simp only [List.setIfInBounds_toArray, List.set_cons_zero, List.set_cons_succ]
        refine held_call 8 40 rfl rfl (by kernel_rfl) (by rfl) (f := 42) (args := ?_) ?_ ?_
        rotate_left; · (go_simp; first | done | with_reducible rfl)
        refine (times_any (fun j => F j + G j) R (fun j hj => by have := HFl.out j hj; have := HG.out.2 j hj; omega) (fun j hj => by have := HRl.out j hj; omega) _).mono ?_
        rintro e w3 ⟨rfl, m17⟩
        replace HNA := Lib.hid (HNA.out.kept m17 (fun e => e))
        refine ⟨_, rfl, ⟨hHeld.1.kept m17 (fun e => e), hHeld.2.tr m17⟩, fun hNew => ?_⟩; clear hHeld; have hHeld := hNew; clear hNew
        simp only [List.setIfInBounds_toArray, List.set_cons_zero, List.set_cons_succ]
        refine held_store 9 rfl rfl (by kernel_rfl) (by rfl) (w' := w3.setRow ga (fiveV (carR fun k => col (fun j => F j + G j) R k 5))) ?_ ?_ (fun hNew => ?_)
        · (exact exec_store_row rfl rfl HNA.out rfl)
        · exact ⟨hHeld.1.rowOther (by have := HGA.out; omega) _, hHeld.2.row (fun hh => by have := HGA.out; have := HBW.out; omega) _⟩
        clear hHeld; have hHeld := hNew; clear hNew
        refine wpAnyH_done (by kernel_rfl) ?_ _
        have HG2 := Lib.hid hHeld
        clear hHeld
        have hG2v := HG.out.1
        rw [HUS.out, HUN.out] at hG2v
        have hlim := car_times (fun j => F j + G j) R (fun j hj => by have := HFl.out j hj; have := HG.out.2 j hj; omega) (fun j hj => by have := HRl.out j hj; omega)
        have HNEW := Lib.hid (HNA.out.row (carR fun k => col (fun j => F j + G j) R k 5))
        have HLIM : Hid (∀ j, j < 5 → (carR fun k => col (fun j => F j + G j) R k 5) j < 134217728) := fun j hj => by have := hlim.all j hj; omega
        have HVAL : Hid (val (carR fun k => col (fun j => F j + G j) R k 5) % P130 = macA s (leN cl 16) (k + 1) % P130) := by
          show _ = _
          rw [car_mod, val_times, val_add, hG2v]
          show _ = (macA s (leN cl 16) k + blkN s k) * leN cl 16 % P130 % P130
          rw [Nat.mod_mod, HRv.out]
          exact mod_step2 _ _ _ _ _ HFv.out
        clear hG2v hlim
        go_wp2_with fail
        go_roundw
        case rel => exact ⟨k + 1, _, HKB2.out, (by rw [HREST.out]), HG2.out.1, HNEW.out, HLIM.out, HVAL.out, HG2.out.2⟩
        case measure => simp; omega
      · have h16' : ¬ ((T.size : Nat) : Int) < 16 := by omega
        have h16n : 16 ≤ T.size := by omega
        have h16i : (16 : Int) ≤ ((T.size : Nat) : Int) := by omega
        have HBN2 : Hid (bn s k = 16) := by show _ = _; rw [HBN.out]; omega
        obtain ⟨u, HU⟩ : ∃ u, Hid (T.extract 0 16 ++ ⟨#[1]⟩ = u) := ⟨_, rfl⟩
        have HUE : Hid (u = (rest s k).extract 0 (bn s k) ++ one1) := by show _ = _; rw [HBN2.out, HT.out, ← HU.out]; rfl
        have HUS : Hid (u.size = 16 + 1) := by show _ = _; rw [HUE.out, blk_size _ _ _ (by rw [HBN2.out, HT.out]; omega), HBN2.out]
        have HUT : Hid (byteAt u 16 < 4) := by show byteAt u 16 < 4; rw [HUE.out]; exact blk_top s k
        have HUN : Hid (leN u (16 + 1) = blkN s k) := by show _ = _; rw [← blk_num, HBN2.out, HUE.out, HBN2.out]
        have HKB2 : Hid (k + 1 ≤ blocks s) := by show k + 1 ≤ (s.size + 15) / 16; have := HLT.out; omega
        have HREST : Hid (rest s (k + 1) = T.extract 16 T.size) := by
          show _ = _
          rw [← rest_rest s k (by have := HRS.out; omega), HT.out]
        have HS8 : Hid (Num wr.drew gr R ∧ Mod (fun _ => False) w wr.drew) := ⟨HNR.out.drew, HM.out.drew⟩
        replace HNA := Lib.hid HNA.out.drew
        have HTS : Hid (T.size ≤ 65536) := by show _ ≤ _; have := HRS.out; omega
        go_upto_region 8 with fail
        refine wp_region_held_drew (S := (fun W => Num W gr R ∧ Mod (fun _ => False) w W)) (by kernel_rfl) HS8.out (fun hHeld => ?_)
        refine held_take 1 33 (v := ?_) rfl rfl (by kernel_rfl) (by kernel_rfl) (by kernel_rfl) (fun _ _ _ _ h => h) (by rfl) ?_ hHeld ?_
        rotate_left; · (intro w hSw; clear hSw; go_simp; first | done | with_reducible rfl)
        simp only [List.setIfInBounds_toArray, List.set_cons_zero, List.set_cons_succ]
        refine held_take 2 34 (v := ?_) rfl rfl (by kernel_rfl) (by kernel_rfl) (by kernel_rfl) (fun _ _ _ _ h => h) (by rfl) ?_ hHeld ?_
        rotate_left; · (intro w hSw; clear hSw; go_simp; first | done | with_reducible rfl)
        simp only [List.setIfInBounds_toArray, List.set_cons_zero, List.set_cons_succ]
        refine held_take 3 35 (v := .string (T.extract 0 16)) rfl rfl (by kernel_rfl) (by kernel_rfl) (by kernel_rfl) (fun _ _ _ _ h => h) (by rfl) ?_ hHeld ?_
        · (intro W hSW; clear hSW; go_simp; first | done | with_reducible rfl)
        simp only [List.setIfInBounds_toArray, List.set_cons_zero, List.set_cons_succ]
        refine held_take 4 36 (v := .string u) rfl rfl (by kernel_rfl) (by kernel_rfl) (by kernel_rfl) (fun _ _ _ _ h => h) (by rfl) ?_ hHeld ?_
        · (intro W hSW; clear hSW; go_simp; first | done | (rw [HU.out]; done) | (rw [if_neg (by have := HTS.out; first | omega | (simp; omega)), HU.out]; done))
        simp only [List.setIfInBounds_toArray, List.set_cons_zero, List.set_cons_succ]
        refine held_take 7 39 (v := .agg (fiveV R)) rfl rfl (by kernel_rfl) (by kernel_rfl) (by kernel_rfl) (fun _ _ _ _ h => h) (by rfl) ?_ hHeld ?_
        · (intro W hSW; exact exec_load_row rfl rfl hSW.1)
        simp only [List.setIfInBounds_toArray, List.set_cons_zero, List.set_cons_succ]
        refine wpAnyH_ready (rs := [0, 5]) (by kernel_rfl) (by simp) ?_
        refine all_make 0 32 rfl rfl (by rfl) (v := .agg (fiveV F)) (w' := wr.drew) ?_ ?_ (fun hNew => ?_) ?_
        · (exact exec_load_row rfl rfl HNA.out)
        · exact hHeld
        ·
          clear hHeld; have hHeld := hNew; clear hNew
          simp only [List.setIfInBounds_toArray, List.set_cons_zero, List.set_cons_succ]
          refine held_call 5 37 rfl rfl (by kernel_rfl) (by rfl) (f := 40) (args := ?_) ?_ ?_
          rotate_left; · (go_simp; first | done | with_reducible rfl)
          refine (read_any u (by rw [HUS.out]; omega) HUT.out _).mono ?_
          rintro e w1 ⟨⟨G, rfl, hGv, hGl⟩, m15⟩
          have HG := Lib.hid (And.intro hGv hGl)
          replace HNA := Lib.hid (HNA.out.kept m15 (fun e => e))
          clear hGv hGl
          refine ⟨_, rfl, ⟨hHeld.1.kept m15 (fun e => e), hHeld.2.tr m15⟩, fun hNew => ?_⟩; clear hHeld; have hHeld := hNew; clear hNew
          simp only [List.setIfInBounds_toArray, List.set_cons_zero, List.set_cons_succ]
          refine held_call 6 38 rfl rfl (by kernel_rfl) (by rfl) (f := 41) (args := ?_) ?_ ?_
          rotate_left; · (go_simp; first | done | with_reducible rfl)
          refine (add_any F G (fun j hj => by have := HFl.out j hj; have := HG.out.2 j hj; omega) _).mono ?_
          rintro e w2 ⟨rfl, m16⟩
          replace HNA := Lib.hid (HNA.out.kept m16 (fun e => e))
          refine ⟨_, rfl, ⟨hHeld.1.kept m16 (fun e => e), hHeld.2.tr m16⟩, fun hNew => ?_⟩; clear hHeld; have hHeld := hNew; clear hNew
          simp only [List.setIfInBounds_toArray, List.set_cons_zero, List.set_cons_succ]
          refine held_call 8 40 rfl rfl (by kernel_rfl) (by rfl) (f := 42) (args := ?_) ?_ ?_
          rotate_left; · (go_simp; first | done | with_reducible rfl)
          refine (times_any (fun j => F j + G j) R (fun j hj => by have := HFl.out j hj; have := HG.out.2 j hj; omega) (fun j hj => by have := HRl.out j hj; omega) _).mono ?_
          rintro e w3 ⟨rfl, m17⟩
          replace HNA := Lib.hid (HNA.out.kept m17 (fun e => e))
          refine ⟨_, rfl, ⟨hHeld.1.kept m17 (fun e => e), hHeld.2.tr m17⟩, fun hNew => ?_⟩; clear hHeld; have hHeld := hNew; clear hNew
          simp only [List.setIfInBounds_toArray, List.set_cons_zero, List.set_cons_succ]
          refine held_store 9 rfl rfl (by kernel_rfl) (by rfl) (w' := w3.setRow ga (fiveV (carR fun k => col (fun j => F j + G j) R k 5))) ?_ ?_ (fun hNew => ?_)
          · (exact exec_store_row rfl rfl HNA.out rfl)
          · exact ⟨hHeld.1.rowOther (by have := HGA.out; omega) _, hHeld.2.row (fun hh => by have := HGA.out; have := HBW.out; omega) _⟩
          clear hHeld; have hHeld := hNew; clear hNew
          refine wpAnyH_done (by kernel_rfl) ?_ _
          have HG2 := Lib.hid hHeld
          clear hHeld
          have hG2v := HG.out.1
          rw [HUS.out, HUN.out] at hG2v
          have hlim := car_times (fun j => F j + G j) R (fun j hj => by have := HFl.out j hj; have := HG.out.2 j hj; omega) (fun j hj => by have := HRl.out j hj; omega)
          have HNEW := Lib.hid (HNA.out.row (carR fun k => col (fun j => F j + G j) R k 5))
          have HLIM : Hid (∀ j, j < 5 → (carR fun k => col (fun j => F j + G j) R k 5) j < 134217728) := fun j hj => by have := hlim.all j hj; omega
          have HVAL : Hid (val (carR fun k => col (fun j => F j + G j) R k 5) % P130 = macA s (leN cl 16) (k + 1) % P130) := by
            show _ = _
            rw [car_mod, val_times, val_add, hG2v]
            show _ = (macA s (leN cl 16) k + blkN s k) * leN cl 16 % P130 % P130
            rw [Nat.mod_mod, HRv.out]
            exact mod_step2 _ _ _ _ _ HFv.out
          clear hG2v hlim
          go_wp2_with fail
          go_roundw
          case rel => exact ⟨k + 1, _, HKB2.out, (by rw [HREST.out]), HG2.out.1, HNEW.out, HLIM.out, HVAL.out, HG2.out.2⟩
          case measure => simp; omega
        refine all_call 5 37 rfl rfl (by rfl) (f := 40) (args := ?_) ?_ ?_ AllReadyH.nil
        rotate_left; · (go_simp; first | done | with_reducible rfl)
        refine (read_any u (by rw [HUS.out]; omega) HUT.out _).mono ?_
        rintro e w1 ⟨⟨G, rfl, hGv, hGl⟩, m15⟩
        have HG := Lib.hid (And.intro hGv hGl)
        replace HNA := Lib.hid (HNA.out.kept m15 (fun e => e))
        clear hGv hGl
        refine ⟨_, rfl, ⟨hHeld.1.kept m15 (fun e => e), hHeld.2.tr m15⟩, fun hNew => ?_⟩; clear hHeld; have hHeld := hNew; clear hNew
        simp only [List.setIfInBounds_toArray, List.set_cons_zero, List.set_cons_succ]
        refine held_make 0 32 rfl rfl (by kernel_rfl) (by rfl) (v := .agg (fiveV F)) (w' := w1) ?_ ?_ (fun hNew => ?_)
        · (exact exec_load_row rfl rfl HNA.out)
        · exact hHeld
        clear hHeld; have hHeld := hNew; clear hNew
        simp only [List.setIfInBounds_toArray, List.set_cons_zero, List.set_cons_succ]
        refine held_call 6 38 rfl rfl (by kernel_rfl) (by rfl) (f := 41) (args := ?_) ?_ ?_
        rotate_left; · (go_simp; first | done | with_reducible rfl)
        refine (add_any F G (fun j hj => by have := HFl.out j hj; have := HG.out.2 j hj; omega) _).mono ?_
        rintro e w2 ⟨rfl, m16⟩
        replace HNA := Lib.hid (HNA.out.kept m16 (fun e => e))
        refine ⟨_, rfl, ⟨hHeld.1.kept m16 (fun e => e), hHeld.2.tr m16⟩, fun hNew => ?_⟩; clear hHeld; have hHeld := hNew; clear hNew
        simp only [List.setIfInBounds_toArray, List.set_cons_zero, List.set_cons_succ]
        refine held_call 8 40 rfl rfl (by kernel_rfl) (by rfl) (f := 42) (args := ?_) ?_ ?_
        rotate_left; · (go_simp; first | done | with_reducible rfl)
        refine (times_any (fun j => F j + G j) R (fun j hj => by have := HFl.out j hj; have := HG.out.2 j hj; omega) (fun j hj => by have := HRl.out j hj; omega) _).mono ?_
        rintro e w3 ⟨rfl, m17⟩
        replace HNA := Lib.hid (HNA.out.kept m17 (fun e => e))
        refine ⟨_, rfl, ⟨hHeld.1.kept m17 (fun e => e), hHeld.2.tr m17⟩, fun hNew => ?_⟩; clear hHeld; have hHeld := hNew; clear hNew
        simp only [List.setIfInBounds_toArray, List.set_cons_zero, List.set_cons_succ]
        refine held_store 9 rfl rfl (by kernel_rfl) (by rfl) (w' := w3.setRow ga (fiveV (carR fun k => col (fun j => F j + G j) R k 5))) ?_ ?_ (fun hNew => ?_)
        · (exact exec_store_row rfl rfl HNA.out rfl)
        · exact ⟨hHeld.1.rowOther (by have := HGA.out; omega) _, hHeld.2.row (fun hh => by have := HGA.out; have := HBW.out; omega) _⟩
        clear hHeld; have hHeld := hNew; clear hNew
        refine wpAnyH_done (by kernel_rfl) ?_ _
        have HG2 := Lib.hid hHeld
        clear hHeld
        have hG2v := HG.out.1
        rw [HUS.out, HUN.out] at hG2v
        have hlim := car_times (fun j => F j + G j) R (fun j hj => by have := HFl.out j hj; have := HG.out.2 j hj; omega) (fun j hj => by have := HRl.out j hj; omega)
        have HNEW := Lib.hid (HNA.out.row (carR fun k => col (fun j => F j + G j) R k 5))
        have HLIM : Hid (∀ j, j < 5 → (carR fun k => col (fun j => F j + G j) R k 5) j < 134217728) := fun j hj => by have := hlim.all j hj; omega
        have HVAL : Hid (val (carR fun k => col (fun j => F j + G j) R k 5) % P130 = macA s (leN cl 16) (k + 1) % P130) := by
          show _ = _
          rw [car_mod, val_times, val_add, hG2v]
          show _ = (macA s (leN cl 16) k + blkN s k) * leN cl 16 % P130 % P130
          rw [Nat.mod_mod, HRv.out]
          exact mod_step2 _ _ _ _ _ HFv.out
        clear hG2v hlim
        go_wp2_with fail
        go_roundw
        case rel => exact ⟨k + 1, _, HKB2.out, (by rw [HREST.out]), HG2.out.1, HNEW.out, HLIM.out, HVAL.out, HG2.out.2⟩
        case measure => simp; omega
    · have hge : s.size ≤ 16 * k := by omega
      have HKE2 : Hid (k = blocks s) := by show k = (s.size + 15) / 16; have h1 := HKB.out; have h2 : blocks s = (s.size + 15) / 16 := rfl; omega
      have hE : rest s k = ByteArray.empty := by apply empty_of_size; have := HRS.out; omega
      have he1 : (rest s k).toList.isEmpty = true := by rw [hE, Lib.toList_data]; rfl
      have he2 : (rest s k).toList = [] := by rw [hE, Lib.toList_data]; rfl
      have HS10 : Hid (Num wr.drew ga F ∧ Mod (fun _ => False) w wr.drew) := ⟨HNA.out.drew, HM.out.drew⟩
      clear hE
      generalize rest s k = T at *
      go_upto_region 10 with fail
      refine wp_region_held_drew (S := (fun W => Num W ga F ∧ Mod (fun _ => False) w W)) (by kernel_rfl) HS10.out (fun hHeld => ?_)
      refine held_take 0 44 (v := .agg (fiveV F)) rfl rfl (by kernel_rfl) (by kernel_rfl) (by kernel_rfl) (fun _ _ _ _ h => h) (by rfl) ?_ hHeld ?_
      · (intro W hSW; exact exec_load_row rfl rfl hSW.1)
      simp only [List.setIfInBounds_toArray, List.set_cons_zero, List.set_cons_succ]
      refine held_take 2 46 (v := ?_) rfl rfl (by kernel_rfl) (by kernel_rfl) (by kernel_rfl) (fun _ _ _ _ h => h) (by rfl) ?_ hHeld ?_
      rotate_left; · (intro w hSw; clear hSw; go_simp; first | done | with_reducible rfl)
      simp only [List.setIfInBounds_toArray, List.set_cons_zero, List.set_cons_succ]
      refine held_take 3 47 (v := .string (key.extract 16 key.size)) rfl rfl (by kernel_rfl) (by kernel_rfl) (by kernel_rfl) (fun _ _ _ _ h => h) (by rfl) ?_ hHeld ?_
      · (intro W hSW; clear hSW; go_simp; first | done | with_reducible rfl)
      simp only [List.setIfInBounds_toArray, List.set_cons_zero, List.set_cons_succ]
      refine held_call 1 45 rfl rfl (by kernel_rfl) (by rfl) (f := 43) (args := ?_) ?_ ?_
      rotate_left; · (go_simp; first | done | with_reducible rfl)
      refine (whole_any F HFl.out _).mono ?_
      rintro e w4 ⟨⟨G, rfl, hGv, hGl⟩, m45⟩
      have HG := Lib.hid (And.intro hGv hGl)
      clear hGv hGl
      refine ⟨_, rfl, ⟨hHeld.1.kept m45 (fun e => e), hHeld.2.tr m45⟩, fun hNew => ?_⟩; clear hHeld; have hHeld := hNew; clear hNew
      simp only [List.setIfInBounds_toArray, List.set_cons_zero, List.set_cons_succ]
      refine held_call 4 48 rfl rfl (by kernel_rfl) (by rfl) (f := 44) (args := ?_) ?_ ?_
      rotate_left; · (go_simp; first | done | with_reducible rfl)
      refine (bytes_any G HG.out.2 _ HKF.out _).mono ?_
      rintro e w5 ⟨rfl, m48⟩
      refine ⟨_, rfl, ⟨hHeld.1.kept m48 (fun e => e), hHeld.2.tr m48⟩, fun hNew => ?_⟩; clear hHeld; have hHeld := hNew; clear hNew
      simp only [List.setIfInBounds_toArray, List.set_cons_zero, List.set_cons_succ]
      refine held_take 5 4 (v := ?_) rfl rfl (by kernel_rfl) (by kernel_rfl) (by kernel_rfl) (fun _ _ _ _ h => h) (by rfl) ?_ hHeld ?_
      rotate_left; · (intro w hSw; clear hSw; go_simp; first | done | with_reducible rfl)
      simp only [List.setIfInBounds_toArray, List.set_cons_zero, List.set_cons_succ]
      refine held_take 6 5 (v := ?_) rfl rfl (by kernel_rfl) (by kernel_rfl) (by kernel_rfl) (fun _ _ _ _ h => h) (by rfl) ?_ hHeld ?_
      rotate_left; · (intro w hSw; clear hSw; go_simp; first | done | with_reducible rfl)
      simp only [List.setIfInBounds_toArray, List.set_cons_zero, List.set_cons_succ]
      refine wpAnyH_done (by kernel_rfl) ?_ _
      have HMF := Lib.hid hHeld.2
      clear hHeld
      have HTAG : Hid (leS (val G + leN (key.extract 16 key.size) 16) 16 = macS key s) := by
        show _ = _
        unfold macS
        rw [HG.out.1, HFv.out, Nat.mod_eq_of_lt (macA_lt _ _ _), HK.out, HCL.out, ← HKE2.out]
      go_wp2_with fail
      go_ret2
      exact ⟨by rw [HTAG.out]; rfl, HMF.out⟩
end Go.Proofs.Ytpnpmploaaenlaa
