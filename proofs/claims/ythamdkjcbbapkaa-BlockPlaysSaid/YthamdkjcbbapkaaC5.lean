/- BlockPlays: the walk of the law. -/
import Derived.Test.YthamdkjcbbapkaaC4
namespace Go.Proofs.Ythamdkjcbbapkaa
open Go.RowKit
set_option linter.unusedSimpArgs false
set_option linter.unusedVariables false

set_option maxRecDepth 100000 in
set_option maxHeartbeats 2000000 in
theorem plays_out (N : Int) (a : Option Addr) (m cap : Nat) (w : World) (h : N < 1 ∨ 64 < N) :
    Calls Try.prog 3 #[.int .i64 N, .slice a m cap] w fun e w' => e = .returned (.bool true) ∧ Mod (fun _ => False) w w' := by
  by_cases h1 : N < 1 ∨ 4096 < N
  · have H1 := Lib.hid h1
    clear h h1
    go_enter Try.func3, Try.ntmps3
    go_wp2_with fail
    refine (new_no N _ H1.out).mono ?_
    rintro e w1 ⟨rfl, rfl⟩
    go_wp2_with fail
    refine (rnew_no N _ H1.out).mono ?_
    rintro e w1 ⟨rfl, m1⟩
    go_wp2_with fail
    refine (awake_any _).mono ?_
    rintro e w2 ⟨rfl, m2⟩
    go_wp2_with fail
    go_ret
    exact ⟨rfl, (m1.alloc _).tr m2⟩
  · obtain ⟨n, rfl⟩ : ∃ n : Nat, N = (n : Int) := ⟨N.toNat, by omega⟩
    have h2 : (64 : Int) < (n : Int) := by omega
    have hn1 : 1 ≤ n := by omega
    have hn2 : n ≤ 4096 := by omega
    clear h h1
    go_enter Try.func3, Try.ntmps3
    go_wp2_with fail
    refine (new_any n _ hn1 hn2).mono ?_
    rintro e w1 ⟨rfl, d1, m1⟩
    clear d1
    go_wp2_with fail
    refine (rnew_ok n _ hn1 hn2).mono ?_
    rintro e w2 ⟨⟨g, rfl, sl, hge⟩, m2⟩
    clear sl hge
    go_wp2_with fail
    refine (awake_any _).mono ?_
    rintro e w3 ⟨rfl, m3⟩
    go_wp2_with fail
    go_ret
    exact ⟨rfl, ((m1.tr m2).alloc _).tr m3⟩
/-- The device, and the document's. -/
structure Pl (w0 w : World) (bd gd bq g n c : Nat) (mem : List UInt8) (fuse : Int) (off : Bool) (wr : Int) : Prop where
  dev : Dev w bd gd n mem fuse off wr
  q : w.heap[bq]? = some (.cells (rdC (some ⟨g, 0, none⟩) n c fuse off wr) 29 (0, 0))
  sl : SL w g n (fun k => blk mem k)
  cap : n ≤ c ∧ c ≤ 9223372036854775807
  fu : -1 ≤ fuse ∧ fuse ≤ 9223372036854775807
  m : Mod (fun _ => False) w0 w
  ne : bq ≠ bd ∧ bq ≠ gd ∧ g ≠ bd ∧ g ≠ gd ∧ g ≠ bq
  new : w0.heap.size ≤ bd ∧ w0.heap.size ≤ gd ∧ w0.heap.size ≤ bq
theorem Mod.drewN {S : Nat → Prop} (w : World) (n : Nat) : Mod S w (w.drewN n) := ⟨rfl, rfl, rfl, Nat.le_refl _, fun _ _ _ => rfl⟩
theorem Dev.drewN {w : World} {b g n : Nat} {mem : List UInt8} {fuse : Int} {off : Bool} {wr : Int} (h : Dev w b g n mem fuse off wr) (k : Nat) : Dev (w.drewN k) b g n mem fuse off wr := h.kept (Mod.drewN (S := fun _ => False) w k) (fun e => e) (fun e => e)
theorem Pl.kept {w0 w w' : World} {bd gd bq g n c : Nat} {mem : List UInt8} {fuse : Int} {off : Bool} {wr : Int} (h : Pl w0 w bd gd bq g n c mem fuse off wr) (m : Mod (fun _ => False) w w') : Pl w0 w' bd gd bq g n c mem fuse off wr :=
  ⟨h.dev.kept m (fun e => e) (fun e => e), m.blk h.q (fun e => e), h.sl.kept m, h.cap, h.fu, h.m.tr m, h.ne, h.new⟩
theorem Pl.drewN {w0 w : World} {bd gd bq g n c : Nat} {mem : List UInt8} {fuse : Int} {off : Bool} {wr : Int} (h : Pl w0 w bd gd bq g n c mem fuse off wr) (k : Nat) : Pl w0 (w.drewN k) bd gd bq g n c mem fuse off wr := h.kept (Mod.drewN w k)
section
variable {w : World} {b g n : Nat} {mem : List UInt8} {fuse : Int} {off : Bool} {wr : Int}
theorem off_same (h : Dev w b g n mem fuse off wr) : Calls Try.prog 20 #[.pointer (some ⟨b, 0, none⟩)] w fun e w' => e = .returned (.bool off) ∧ w' = w := (off_dev h).mono fun _ _ h => ⟨h.1, h.2.symm⟩
theorem writes_same (h : Dev w b g n mem fuse off wr) : Calls Try.prog 21 #[.pointer (some ⟨b, 0, none⟩)] w fun e w' => e = .returned (.int .i64 wr) ∧ w' = w := (writes_dev h).mono fun _ _ h => ⟨h.1, h.2.symm⟩
theorem size_same (h : Dev w b g n mem fuse off wr) : Calls Try.prog 22 #[.pointer (some ⟨b, 0, none⟩)] w fun e w' => e = .returned (.int .i64 n) ∧ w' = w := (size_dev h).mono fun _ _ h => ⟨h.1, h.2.symm⟩
end
theorem empty_of_size (s : ByteArray) (h : s.size = 0) : s = ByteArray.empty := by
  obtain ⟨d⟩ := s
  have h' : d.size = 0 := h
  rw [Array.size_eq_zero_iff] at h'
  subst h'; rfl
theorem write_arg {w : World} {b g n : Nat} {mem : List UInt8} {fuse : Int} {off : Bool} {wr : Int} (h : Dev w b g n mem fuse off wr) (at_ : Int) (s : ByteArray) (h0 : at_ < 0 ∨ (n : Int) ≤ at_ ∨ s.size ≠ 64) :
    Calls Try.prog 13 #[.pointer (some ⟨b, 0, none⟩), .int .i64 at_, .string s] w fun e w' => e = .returned (.int .i64 1) ∧ w = w' := by
  by_cases h1 : at_ < 0 ∨ (n : Int) ≤ at_
  · exact write_arg1 h at_ s h1
  · exact write_arg2 h at_ s (by omega) (by omega) (by omega)
theorem wrote_at {mem : List UInt8} {n at_ k : Nat} {s : ByteArray} (hl : mem.length = n * 64) (hat : at_ < n) (hk : k < n) (hs : s.size = 64) : supd (fun k => blk mem k) at_ s k = blk (wrote mem at_ s) k := by
  unfold supd
  by_cases e : k = at_
  · subst e; rw [if_pos rfl, blk_same hl hat hs]
  · rw [if_neg e, blk_other hl hat hk hs e]

set_option maxRecDepth 100000 in
set_option maxHeartbeats 4000000 in
theorem plays_in (n : Nat) (a : Option Addr) (m cap : Nat) (z : Nat → ActD) (w : World) (h1 : 1 ≤ n) (h2 : n ≤ 64) (hm : m ≤ 9223372036854775807) (hz : Acts w a m z) :
    Calls Try.prog 3 #[.int .i64 (n : Int), .slice a m cap] w fun e w' => e = .returned (.bool true) ∧ Mod (fun _ => False) w w' := by
  have HZ := Lib.hid hz
  have hn64 : ¬ (64 : Int) < (n : Int) := by omega
  clear hz
  go_enter Try.func3, Try.ntmps3
  go_wp2_with fail
  refine (new_any n _ h1 (by omega)).mono ?_
  rintro e w1 ⟨rfl, d1, m1⟩
  have HD1 := Lib.hid d1
  have HM1 := Lib.hid m1
  clear d1 m1
  go_wp2_with fail
  refine (rnew_ok n _ h1 (by omega)).mono ?_
  rintro e w2 ⟨⟨g, rfl, sl, hge⟩, m2⟩
  have HP0 : Hid (Pl w (w2.alloc (.cells (rdC (some ⟨g, 0, none⟩) n n (-1) false 0) 29)) (w.heap.size + 1) w.heap.size w2.heap.size g n n (List.replicate (n * 64) 0) (-1) false 0) := by
    have hd := HD1.out.kept m2 (fun e => e) (fun e => e)
    have ma := (Mod.refl (fun _ => False) w2).alloc (.cells (rdC (some ⟨g, 0, none⟩) n n (-1) false 0) 29)
    have hlt1 := lt_of_block HD1.out.dev
    have hlt2 := m2.size
    have hg := World.block_lt_of_cell? w2 _ (sl 0 (by omega))
    simp at hg
    exact ⟨hd.kept ma (fun e => e) (fun e => e), new_block _ _ _ _ rfl, (sl.kept ma).eq (fun k hk => (blk_zero hk).symm), ⟨Nat.le_refl _, by omega⟩, ⟨by omega, by omega⟩, (HM1.out.tr m2).tr ma, ⟨by omega, by omega, by omega, by omega, by omega⟩, ⟨by omega, by omega, by have := HM1.out.size; omega⟩⟩
  clear sl m2 hge
  go_wp2_with fail
  obtain ⟨bd, hbd⟩ : ∃ bd, bd = w.heap.size + 1 := ⟨_, rfl⟩
  obtain ⟨gd, hgd⟩ : ∃ gd, gd = w.heap.size := ⟨_, rfl⟩
  obtain ⟨bq, hbq⟩ : ∃ bq, bq = w2.heap.size := ⟨_, rfl⟩
  rw [← hbd, ← hbq] at HP0 ⊢
  have HP00 : Hid (Pl w (w2.alloc (.cells (rdC (some ⟨g, 0, none⟩) n n (-1) false 0) 29)) bd gd bq g n n (List.replicate (n * 64) 0) (-1) false 0) := by rw [hgd]; exact HP0
  clear hbd hgd hbq HP0
  go_loopw [9] (fun v wr => ∃ (i g c : Nat) (mem : List UInt8) (fuse : Int) (off : Bool) (wn : Int), i ≤ m ∧ i ≤ 100 ∧ v = .int .i64 (i : Int) ∧ Pl w wr bd gd bq g n c mem fuse off wn ∧ 0 ≤ wn ∧ wn ≤ i) (fun v _ => 100 - (intOf v).toNat)
  case atStart => exact ⟨0, g, n, _, _, _, _, by omega, by omega, rfl, HP00.out, by omega, by omega⟩
  case round =>
    obtain ⟨i, g, c, mem, fuse, off, wn, him, hi100, rfl, hp, hwn0, hwn1⟩ := hrel
    have HP0 := Lib.hid hp
    clear hp
    by_cases hrun : i < m ∧ i < 100
    · obtain ⟨b, o, rfl, hact⟩ := HZ.out i hrun.1
      obtain ⟨q, hq⟩ : ∃ q, q = z i := ⟨_, rfl⟩
      rw [← hq] at hact
      have hact2 := hact.kept HP0.out.m
      obtain ⟨c0, c1, c2, c3, hqs, hqw⟩ := hact2
      have hi0 : (0 : Int) ≤ (i : Int) := by omega
      have hlt1 : (i : Int) < (m : Int) := by omega
      have hlt2 : (i : Int) < 100 := by omega
      have hmx : maxLen = 9223372036854775807 := rfl
      rw [hmx] at hqs
      clear hact hq hmx
      obtain ⟨qk, qa, qc, qs⟩ := q
      simp only at c0 c1 c2 c3 hqs hqw
      obtain ⟨ob, hob⟩ : ∃ ob : Obj, ob = .cells #[.int .i64 qk, .int .i64 qa, .int .u8 (qc.toNat : Int), .string qs] 34 := ⟨_, rfl⟩
      have HPA := Lib.hid (HP0.out.kept ((Mod.refl (fun _ => False) wr).alloc ob))
      have HOB := Lib.hid hob
      clear hob
      have hqa : -9223372036854775808 ≤ qa ∧ qa ≤ 9223372036854775807 := by simp only [Lit.wf, IntKind.min, IntKind.max, IntKind.signed, IntKind.bits, Bool.and_eq_true, decide_eq_true_eq] at hqw; simpa using hqw
      clear hqw
      by_cases hlong : 100 < qs.size
      · have hl : (100 : Int) < ((qs.size : Nat) : Int) := by omega
        go_wp2_with fail
        refine (awake_any _).mono ?_
        rintro e w6 ⟨rfl, m6⟩
        rw [← HOB.out] at m6
        go_wp2_with fail
        go_ret
        exact ⟨rfl, HPA.out.m.tr m6⟩
      · have hl : ¬ (100 : Int) < ((qs.size : Nat) : Int) := by omega
        have HQ0 := Lib.hid HPA.out.q
        by_cases hk1 : qk = 1
        · skip
          have k1 : (qk == 1) = true := by rw [beq_iff_eq]; omega
          have k2 : (qk == 2) = false := by rw [beq_eq_false_iff_ne]; omega
          have k3 : (qk == 3) = false := by rw [beq_eq_false_iff_ne]; omega
          clear hk1
          by_cases hem : qs.size = 0
          · obtain rfl : qs = ByteArray.empty := empty_of_size qs hem
            have he1 : ByteArray.empty.toList = [] := by rw [Lib.toList_data]; rfl
            have he2 : ByteArray.empty.toList.isEmpty = true := by rw [Lib.toList_data]; rfl
            go_upto_region 21 with (go_at_call 11; refine (filled_any _ qc rfl _).mono ?_; rintro e wB ⟨rfl, mB⟩)
            have caB : wB.cell? ⟨wr.heap.size, 1, none⟩ = some (.int .i64 qa) := mB.at (cell_new wr _ 34 1 _ rfl)
            rw [← HOB.out] at mB
            have HPB := Lib.hid (HPA.out.kept mB)
            have HQB := Lib.hid HPB.out.q
            clear mB HQ0
            obtain ⟨S, hS⟩ : ∃ S, S = fill qc := ⟨_, rfl⟩
            rw [← hS]
            clear hS
            by_cases harg : qa < 0 ∨ (n : Int) ≤ qa ∨ S.size ≠ 64
            · have HARG := Lib.hid harg
              clear harg
              go_wp2_with (refine wpList_load_row rfl 29 (.tmp 7) rfl bq rfl _ _ _ _ HQB.out Try.underlying29 rfl (by kernel_rfl) ?_)
              refine (rwrite_arg (some ⟨g, 0, none⟩) n c fuse off wn qa S _ HARG.out).mono ?_
              rintro e w3 ⟨rfl, m3⟩
              have HPD := Lib.hid ((HPB.out.kept m3).kept ((Mod.refl (fun _ => False) w3).alloc (.cells (rdC (some ⟨g, 0, none⟩) n c fuse off wn) 29)))
              have HN : Hid ((w3.alloc (.cells (rdC (some ⟨g, 0, none⟩) n c fuse off wn) 29)).heap[w3.heap.size]? = some (.cells (rdC (some ⟨g, 0, none⟩) n c fuse off wn) 29 (0, 0))) := new_block _ _ _ _ rfl
              have HNE : Hid (w3.heap.size ≠ bd ∧ w3.heap.size ≠ gd ∧ w3.heap.size ≠ bq) := by
                have d := (HPB.out.kept m3)
                have h1 := lt_of_block d.dev.dev
                have h2 := lt_of_block d.dev.row
                have h3 := lt_of_block d.q
                show _ ∧ _ ∧ _
                omega
              have ca3 : (w3.alloc (.cells (rdC (some ⟨g, 0, none⟩) n c fuse off wn) 29)).cell? ⟨wr.heap.size, 1, none⟩ = some (.int .i64 qa) := (m3.tr ((Mod.refl (fun _ => False) w3).alloc _)).at caB
              clear m3
              go_wp2_with fail
              refine (write_arg HPD.out.dev qa S HARG.out).mono ?_
              rintro e w4 ⟨rfl, rfl⟩
              have HN4 := HN
              have HQ4 := Lib.hid HPD.out.q
              go_wp2_with (first | (refine wpList_load_row rfl 29 (.tmp 12) rfl w3.heap.size rfl _ _ _ _ HN4.out Try.underlying29 rfl (by kernel_rfl) ?_) | (refine wpList_store_row rfl 29 (.tmp 7) (.tmp 95) rfl bq (rdC (some ⟨g, 0, none⟩) n c fuse off wn) rfl rfl _ _ HQ4.out (by kernel_rfl) rfl (rdC_one _ _ _ _ _ _) ?_))
              have mq := (Mod.refl (fun i => i = bq) (w3.alloc (.cells (rdC (some ⟨g, 0, none⟩) n c fuse off wn) 29))).row (fun _ => rfl) (rdC (some ⟨g, 0, none⟩) n c fuse off wn)
              have HP : Hid (Pl w ((w3.alloc (.cells (rdC (some ⟨g, 0, none⟩) n c fuse off wn) 29)).setRow bq (rdC (some ⟨g, 0, none⟩) n c fuse off wn)) bd gd bq g n c mem fuse off wn) :=
                ⟨(HPD.out.dev).kept mq (fun e => HPD.out.ne.1 e.symm) (fun e => HPD.out.ne.2.1 e.symm), setRow_heap _ _ _ _ _ _ HQ4.out, (HPD.out.sl).row ((And.intro HPD.out.ne.2.2.1 (And.intro HPD.out.ne.2.2.2.1 HPD.out.ne.2.2.2.2))).2.2 _, HPD.out.cap, HPD.out.fu, (HPD.out.m).row (fun hh => by have := HPD.out.new.2.2; omega) _, ⟨HPD.out.ne.1, HPD.out.ne.2.1, ((And.intro HPD.out.ne.2.2.1 (And.intro HPD.out.ne.2.2.2.1 HPD.out.ne.2.2.2.2))).1, ((And.intro HPD.out.ne.2.2.1 (And.intro HPD.out.ne.2.2.2.1 HPD.out.ne.2.2.2.2))).2.1, ((And.intro HPD.out.ne.2.2.1 (And.intro HPD.out.ne.2.2.2.1 HPD.out.ne.2.2.2.2))).2.2⟩, HPD.out.new⟩
              clear mq
              have HDV := Lib.hid HP.out.dev
              obtain ⟨wF, hwF⟩ : ∃ wF : World, wF = ((w3.alloc (.cells (rdC (some ⟨g, 0, none⟩) n c fuse off wn) 29)).setRow bq (rdC (some ⟨g, 0, none⟩) n c fuse off wn)) := ⟨_, rfl⟩
              rw [← hwF] at HP HDV ⊢
              clear hwF
              have hq0 : wF.cell? ⟨bq, 0, none⟩ = some (.slice (some ⟨g, 0, none⟩) n c) := blk_cell (o := 0) HP.out.q rfl
              have hq2 : wF.cell? ⟨bq, 2, none⟩ = some (.bool off) := blk_cell (o := 2) HP.out.q rfl
              have hq3 : wF.cell? ⟨bq, 3, none⟩ = some (.int .i64 wn) := blk_cell (o := 3) HP.out.q rfl
              have hoo : (off != off) = false := by simp
              have hww : ((wn : Int) != wn) = false := by rw [bne_eq_false_iff_eq]
              have hnn : ((n : Int) != (n : Int)) = false := by rw [bne_eq_false_iff_eq]
              go_upto_region 34 with fail
              go_quiet ((first | (go_at_call 20; exact Calls.quiet_of_same (off_same (HDV.out.drewN _))) | (go_at_call 21; exact Calls.quiet_of_same (writes_same (HDV.out.drewN _))) | (go_at_call 22; exact Calls.quiet_of_same (size_same (HDV.out.drewN _)))))
              go_wp2_with fail
              go_roundw
              case rel => exact ⟨i + 1, g, c, mem, fuse, off, wn, by omega, by omega, by go_num, HP.out.drewN _, by omega, by omega⟩
              case measure => simp [intOf]; omega
            · obtain ⟨at_, rfl⟩ : ∃ at_ : Nat, qa = (at_ : Int) := ⟨qa.toNat, by omega⟩
              have hat : at_ < n := by omega
              have HS64 : Hid (S.size = 64) := by show _ = _; omega
              clear harg
              by_cases hof : off = true ∨ fuse = 0
              · have HOF := Lib.hid hof
                clear hof
                go_wp2_with (refine wpList_load_row rfl 29 (.tmp 7) rfl bq rfl _ _ _ _ HQB.out Try.underlying29 rfl (by kernel_rfl) ?_)
                refine (rwrite_off (some ⟨g, 0, none⟩) n c fuse off wn (at_ : Int) S _ (by omega) (by omega) HS64.out HOF.out).mono ?_
                rintro e w3 ⟨rfl, m3⟩
                have HPD := Lib.hid ((HPB.out.kept m3).kept ((Mod.refl (fun _ => False) w3).alloc (.cells (rdC (some ⟨g, 0, none⟩) n c (-1) true wn) 29)))
                have HN : Hid ((w3.alloc (.cells (rdC (some ⟨g, 0, none⟩) n c (-1) true wn) 29)).heap[w3.heap.size]? = some (.cells (rdC (some ⟨g, 0, none⟩) n c (-1) true wn) 29 (0, 0))) := new_block _ _ _ _ rfl
                have HNE : Hid (w3.heap.size ≠ bd ∧ w3.heap.size ≠ gd ∧ w3.heap.size ≠ bq) := by
                  have d := (HPB.out.kept m3)
                  have h1 := lt_of_block d.dev.dev
                  have h2 := lt_of_block d.dev.row
                  have h3 := lt_of_block d.q
                  show _ ∧ _ ∧ _
                  omega
                have ca3 : (w3.alloc (.cells (rdC (some ⟨g, 0, none⟩) n c (-1) true wn) 29)).cell? ⟨wr.heap.size, 1, none⟩ = some (.int .i64 (at_ : Int)) := (m3.tr ((Mod.refl (fun _ => False) w3).alloc _)).at caB
                clear m3
                go_wp2_with fail
                refine (write_off HPD.out.dev (at_ : Int) S (by omega) (by omega) HS64.out HOF.out).mono ?_
                rintro e w4 ⟨rfl, d4, m4⟩
                have HN4 := Lib.hid (m4.blk HN.out (fun e => HNE.out.1 e))
                have HQ4 := Lib.hid (m4.blk HPD.out.q (fun e => HPD.out.ne.1 e))
                go_wp2_with (first | (refine wpList_load_row rfl 29 (.tmp 12) rfl w3.heap.size rfl _ _ _ _ HN4.out Try.underlying29 rfl (by kernel_rfl) ?_) | (refine wpList_store_row rfl 29 (.tmp 7) (.tmp 95) rfl bq (rdC (some ⟨g, 0, none⟩) n c (-1) true wn) rfl rfl _ _ HQ4.out (by kernel_rfl) rfl (rdC_one _ _ _ _ _ _) ?_))
                have mq := (Mod.refl (fun i => i = bq) w4).row (fun _ => rfl) (rdC (some ⟨g, 0, none⟩) n c (-1) true wn)
                have HP : Hid (Pl w (w4.setRow bq (rdC (some ⟨g, 0, none⟩) n c (-1) true wn)) bd gd bq g n c mem (-1) true wn) :=
                  ⟨(d4).kept mq (fun e => HPD.out.ne.1 e.symm) (fun e => HPD.out.ne.2.1 e.symm), setRow_heap _ _ _ _ _ _ HQ4.out, (HPD.out.sl.keptS m4 (fun e => HPD.out.ne.2.2.1 e)).row ((And.intro HPD.out.ne.2.2.1 (And.intro HPD.out.ne.2.2.2.1 HPD.out.ne.2.2.2.2))).2.2 _, HPD.out.cap, ⟨by omega, by omega⟩, (HPD.out.m.trans m4 (U := fun i => False) (fun _ e => e) (fun i hi e => by have := HPD.out.new.1; omega)).row (fun hh => by have := HPD.out.new.2.2; omega) _, ⟨HPD.out.ne.1, HPD.out.ne.2.1, ((And.intro HPD.out.ne.2.2.1 (And.intro HPD.out.ne.2.2.2.1 HPD.out.ne.2.2.2.2))).1, ((And.intro HPD.out.ne.2.2.1 (And.intro HPD.out.ne.2.2.2.1 HPD.out.ne.2.2.2.2))).2.1, ((And.intro HPD.out.ne.2.2.1 (And.intro HPD.out.ne.2.2.2.1 HPD.out.ne.2.2.2.2))).2.2⟩, HPD.out.new⟩
                clear mq
                have HDV := Lib.hid HP.out.dev
                obtain ⟨wF, hwF⟩ : ∃ wF : World, wF = (w4.setRow bq (rdC (some ⟨g, 0, none⟩) n c (-1) true wn)) := ⟨_, rfl⟩
                rw [← hwF] at HP HDV ⊢
                clear hwF
                have hq0 : wF.cell? ⟨bq, 0, none⟩ = some (.slice (some ⟨g, 0, none⟩) n c) := blk_cell (o := 0) HP.out.q rfl
                have hq2 : wF.cell? ⟨bq, 2, none⟩ = some (.bool true) := blk_cell (o := 2) HP.out.q rfl
                have hq3 : wF.cell? ⟨bq, 3, none⟩ = some (.int .i64 wn) := blk_cell (o := 3) HP.out.q rfl
                have hoo : (true != true) = false := by simp
                have hww : ((wn : Int) != wn) = false := by rw [bne_eq_false_iff_eq]
                have hnn : ((n : Int) != (n : Int)) = false := by rw [bne_eq_false_iff_eq]
                go_upto_region 34 with fail
                go_quiet ((first | (go_at_call 20; exact Calls.quiet_of_same (off_same (HDV.out.drewN _))) | (go_at_call 21; exact Calls.quiet_of_same (writes_same (HDV.out.drewN _))) | (go_at_call 22; exact Calls.quiet_of_same (size_same (HDV.out.drewN _)))))
                go_wp2_with fail
                go_roundw
                case rel => exact ⟨i + 1, g, c, mem, (-1), true, wn, by omega, by omega, by go_num, HP.out.drewN _, by omega, by omega⟩
                case measure => simp [intOf]; omega
              · obtain rfl : off = false := by cases off; rfl; exact absurd (Or.inl rfl) hof
                have HOF : Hid (fuse ≠ 0) := fun e => hof (Or.inr e)
                clear hof
                obtain ⟨fu, HFU⟩ : ∃ fu : Int, Hid (fu = if 0 < fuse then fuse - 1 else fuse) := ⟨_, rfl⟩
                have HFB : Hid (-1 ≤ fu ∧ fu ≤ 9223372036854775807) := by
                  have h1 := HPB.out.fu
                  show _ ∧ _
                  rw [HFU.out]
                  split <;> omega
                go_wp2_with (refine wpList_load_row rfl 29 (.tmp 7) rfl bq rfl _ _ _ _ HQB.out Try.underlying29 rfl (by kernel_rfl) ?_)
                refine (rwrite_ok g n c fuse wn at_ S (fun k => blk mem k) wB hat (by omega) HPB.out.cap.1 HPB.out.cap.2 HS64.out HOF.out HPB.out.sl hwn0 (by omega) HPB.out.fu.2 fu HFU.out).mono ?_
                rintro e w3 ⟨⟨g2, c2, rfl, hcp1, hcp2, sl2, hge2⟩, m3⟩
                have HS2 := Lib.hid sl2
                have HC2 := Lib.hid (And.intro hcp1 hcp2)
                have HG2 : Hid (g2 ≠ bd ∧ g2 ≠ gd ∧ g2 ≠ bq) := by
                  have h1 := lt_of_block HPB.out.dev.dev
                  have h2 := lt_of_block HPB.out.dev.row
                  have h3 := lt_of_block HPB.out.q
                  show _ ∧ _ ∧ _
                  omega
                clear sl2 hcp1 hcp2 hge2
                have HPD := Lib.hid ((HPB.out.kept m3).kept ((Mod.refl (fun _ => False) w3).alloc (.cells (rdC (some ⟨g2, 0, none⟩) n c2 fu false (wn + 1)) 29)))
                have HN : Hid ((w3.alloc (.cells (rdC (some ⟨g2, 0, none⟩) n c2 fu false (wn + 1)) 29)).heap[w3.heap.size]? = some (.cells (rdC (some ⟨g2, 0, none⟩) n c2 fu false (wn + 1)) 29 (0, 0))) := new_block _ _ _ _ rfl
                have HNE : Hid (w3.heap.size ≠ bd ∧ w3.heap.size ≠ gd ∧ w3.heap.size ≠ bq) := by
                  have d := (HPB.out.kept m3)
                  have h1 := lt_of_block d.dev.dev
                  have h2 := lt_of_block d.dev.row
                  have h3 := lt_of_block d.q
                  show _ ∧ _ ∧ _
                  omega
                have ca3 : (w3.alloc (.cells (rdC (some ⟨g2, 0, none⟩) n c2 fu false (wn + 1)) 29)).cell? ⟨wr.heap.size, 1, none⟩ = some (.int .i64 (at_ : Int)) := (m3.tr ((Mod.refl (fun _ => False) w3).alloc _)).at caB
                clear m3
                go_wp2_with fail
                refine (write_ok HPD.out.dev at_ S hat HS64.out HOF.out hwn0 (by omega) HPD.out.fu.1 HPD.out.fu.2 (by omega)).mono ?_
                rintro e w4 ⟨rfl, d4, m4⟩
                rw [← HFU.out] at d4
                have HN4 := Lib.hid (m4.blk HN.out (fun e => e.elim (fun e => HNE.out.1 e) (fun e => HNE.out.2.1 e)))
                have HQ4 := Lib.hid (m4.blk HPD.out.q (fun e => e.elim (fun e => HPD.out.ne.1 e) (fun e => HPD.out.ne.2.1 e)))
                go_wp2_with (first | (refine wpList_load_row rfl 29 (.tmp 12) rfl w3.heap.size rfl _ _ _ _ HN4.out Try.underlying29 rfl (by kernel_rfl) ?_) | (refine wpList_store_row rfl 29 (.tmp 7) (.tmp 95) rfl bq (rdC (some ⟨g2, 0, none⟩) n c2 fu false (wn + 1)) rfl rfl _ _ HQ4.out (by kernel_rfl) rfl (rdC_one _ _ _ _ _ _) ?_))
                have mq := (Mod.refl (fun i => i = bq) w4).row (fun _ => rfl) (rdC (some ⟨g2, 0, none⟩) n c2 fu false (wn + 1))
                have HP : Hid (Pl w (w4.setRow bq (rdC (some ⟨g2, 0, none⟩) n c2 fu false (wn + 1))) bd gd bq g2 n c2 (wrote mem at_ S) fu false (wn + 1)) :=
                  ⟨(d4).kept mq (fun e => HPD.out.ne.1 e.symm) (fun e => HPD.out.ne.2.1 e.symm), setRow_heap _ _ _ _ _ _ HQ4.out, (((HS2.out.kept ((Mod.refl (fun _ => False) w3).alloc _)).keptS m4 (fun e => e.elim (fun e => HG2.out.1 e) (fun e => HG2.out.2.1 e))).eq (fun k hk => wrote_at HPD.out.dev.len hat hk HS64.out)).row (HG2.out).2.2 _, HC2.out, HFB.out, (HPD.out.m.trans m4 (U := fun i => False) (fun _ e => e) (fun i hi e => by have h1 := HPD.out.new.1; have h2 := HPD.out.new.2.1; rcases e with e | e <;> omega)).row (fun hh => by have := HPD.out.new.2.2; omega) _, ⟨HPD.out.ne.1, HPD.out.ne.2.1, (HG2.out).1, (HG2.out).2.1, (HG2.out).2.2⟩, HPD.out.new⟩
                clear mq
                have HDV := Lib.hid HP.out.dev
                obtain ⟨wF, hwF⟩ : ∃ wF : World, wF = (w4.setRow bq (rdC (some ⟨g2, 0, none⟩) n c2 fu false (wn + 1))) := ⟨_, rfl⟩
                rw [← hwF] at HP HDV ⊢
                clear hwF
                have hq0 : wF.cell? ⟨bq, 0, none⟩ = some (.slice (some ⟨g2, 0, none⟩) n c2) := blk_cell (o := 0) HP.out.q rfl
                have hq2 : wF.cell? ⟨bq, 2, none⟩ = some (.bool false) := blk_cell (o := 2) HP.out.q rfl
                have hq3 : wF.cell? ⟨bq, 3, none⟩ = some (.int .i64 (wn + 1)) := blk_cell (o := 3) HP.out.q rfl
                have hoo : (false != false) = false := by simp
                have hww : (((wn + 1) : Int) != (wn + 1)) = false := by rw [bne_eq_false_iff_eq]
                have hnn : ((n : Int) != (n : Int)) = false := by rw [bne_eq_false_iff_eq]
                go_upto_region 34 with fail
                go_quiet ((first | (go_at_call 20; exact Calls.quiet_of_same (off_same (HDV.out.drewN _))) | (go_at_call 21; exact Calls.quiet_of_same (writes_same (HDV.out.drewN _))) | (go_at_call 22; exact Calls.quiet_of_same (size_same (HDV.out.drewN _)))))
                go_wp2_with fail
                go_roundw
                case rel => exact ⟨i + 1, g2, c2, (wrote mem at_ S), fu, false, (wn + 1), by omega, by omega, by go_num, HP.out.drewN _, by omega, by omega⟩
                case measure => simp [intOf]; omega
          · have he1 : qs.toList.isEmpty = false := by
              rw [Lib.toList_data, List.isEmpty_eq_false_iff]
              intro e
              have : qs.data.toList.length = 0 := by rw [e]; rfl
              have h2 : qs.data.toList.length = qs.size := by simp
              omega
            have he2 : ¬ qs.toList = [] := by
              intro e; rw [e] at he1; exact absurd he1 (by decide)
            go_upto_region 21 with fail
            rw [← HOB.out]
            obtain ⟨wB, hwB⟩ : ∃ wB, wB = wr.alloc ob := ⟨_, rfl⟩
            have caB : wB.cell? ⟨wr.heap.size, 1, none⟩ = some (.int .i64 qa) := by rw [hwB, HOB.out]; exact cell_new wr _ 34 1 _ rfl
            rw [← hwB]
            rw [← hwB] at HPA
            have HPB := HPA
            have HQB := Lib.hid HPB.out.q
            clear HQ0 he1 he2 hwB
            by_cases harg : qa < 0 ∨ (n : Int) ≤ qa ∨ qs.size ≠ 64
            · have HARG := Lib.hid harg
              clear harg
              go_wp2_with (refine wpList_load_row rfl 29 (.tmp 7) rfl bq rfl _ _ _ _ HQB.out Try.underlying29 rfl (by kernel_rfl) ?_)
              refine (rwrite_arg (some ⟨g, 0, none⟩) n c fuse off wn qa qs _ HARG.out).mono ?_
              rintro e w3 ⟨rfl, m3⟩
              have HPD := Lib.hid ((HPB.out.kept m3).kept ((Mod.refl (fun _ => False) w3).alloc (.cells (rdC (some ⟨g, 0, none⟩) n c fuse off wn) 29)))
              have HN : Hid ((w3.alloc (.cells (rdC (some ⟨g, 0, none⟩) n c fuse off wn) 29)).heap[w3.heap.size]? = some (.cells (rdC (some ⟨g, 0, none⟩) n c fuse off wn) 29 (0, 0))) := new_block _ _ _ _ rfl
              have HNE : Hid (w3.heap.size ≠ bd ∧ w3.heap.size ≠ gd ∧ w3.heap.size ≠ bq) := by
                have d := (HPB.out.kept m3)
                have h1 := lt_of_block d.dev.dev
                have h2 := lt_of_block d.dev.row
                have h3 := lt_of_block d.q
                show _ ∧ _ ∧ _
                omega
              have ca3 : (w3.alloc (.cells (rdC (some ⟨g, 0, none⟩) n c fuse off wn) 29)).cell? ⟨wr.heap.size, 1, none⟩ = some (.int .i64 qa) := (m3.tr ((Mod.refl (fun _ => False) w3).alloc _)).at caB
              clear m3
              go_wp2_with fail
              refine (write_arg HPD.out.dev qa qs HARG.out).mono ?_
              rintro e w4 ⟨rfl, rfl⟩
              have HN4 := HN
              have HQ4 := Lib.hid HPD.out.q
              go_wp2_with (first | (refine wpList_load_row rfl 29 (.tmp 12) rfl w3.heap.size rfl _ _ _ _ HN4.out Try.underlying29 rfl (by kernel_rfl) ?_) | (refine wpList_store_row rfl 29 (.tmp 7) (.tmp 95) rfl bq (rdC (some ⟨g, 0, none⟩) n c fuse off wn) rfl rfl _ _ HQ4.out (by kernel_rfl) rfl (rdC_one _ _ _ _ _ _) ?_))
              have mq := (Mod.refl (fun i => i = bq) (w3.alloc (.cells (rdC (some ⟨g, 0, none⟩) n c fuse off wn) 29))).row (fun _ => rfl) (rdC (some ⟨g, 0, none⟩) n c fuse off wn)
              have HP : Hid (Pl w ((w3.alloc (.cells (rdC (some ⟨g, 0, none⟩) n c fuse off wn) 29)).setRow bq (rdC (some ⟨g, 0, none⟩) n c fuse off wn)) bd gd bq g n c mem fuse off wn) :=
                ⟨(HPD.out.dev).kept mq (fun e => HPD.out.ne.1 e.symm) (fun e => HPD.out.ne.2.1 e.symm), setRow_heap _ _ _ _ _ _ HQ4.out, (HPD.out.sl).row ((And.intro HPD.out.ne.2.2.1 (And.intro HPD.out.ne.2.2.2.1 HPD.out.ne.2.2.2.2))).2.2 _, HPD.out.cap, HPD.out.fu, (HPD.out.m).row (fun hh => by have := HPD.out.new.2.2; omega) _, ⟨HPD.out.ne.1, HPD.out.ne.2.1, ((And.intro HPD.out.ne.2.2.1 (And.intro HPD.out.ne.2.2.2.1 HPD.out.ne.2.2.2.2))).1, ((And.intro HPD.out.ne.2.2.1 (And.intro HPD.out.ne.2.2.2.1 HPD.out.ne.2.2.2.2))).2.1, ((And.intro HPD.out.ne.2.2.1 (And.intro HPD.out.ne.2.2.2.1 HPD.out.ne.2.2.2.2))).2.2⟩, HPD.out.new⟩
              clear mq
              have HDV := Lib.hid HP.out.dev
              obtain ⟨wF, hwF⟩ : ∃ wF : World, wF = ((w3.alloc (.cells (rdC (some ⟨g, 0, none⟩) n c fuse off wn) 29)).setRow bq (rdC (some ⟨g, 0, none⟩) n c fuse off wn)) := ⟨_, rfl⟩
              rw [← hwF] at HP HDV ⊢
              clear hwF
              have hq0 : wF.cell? ⟨bq, 0, none⟩ = some (.slice (some ⟨g, 0, none⟩) n c) := blk_cell (o := 0) HP.out.q rfl
              have hq2 : wF.cell? ⟨bq, 2, none⟩ = some (.bool off) := blk_cell (o := 2) HP.out.q rfl
              have hq3 : wF.cell? ⟨bq, 3, none⟩ = some (.int .i64 wn) := blk_cell (o := 3) HP.out.q rfl
              have hoo : (off != off) = false := by simp
              have hww : ((wn : Int) != wn) = false := by rw [bne_eq_false_iff_eq]
              have hnn : ((n : Int) != (n : Int)) = false := by rw [bne_eq_false_iff_eq]
              go_upto_region 34 with fail
              go_quiet ((first | (go_at_call 20; exact Calls.quiet_of_same (off_same (HDV.out.drewN _))) | (go_at_call 21; exact Calls.quiet_of_same (writes_same (HDV.out.drewN _))) | (go_at_call 22; exact Calls.quiet_of_same (size_same (HDV.out.drewN _)))))
              go_wp2_with fail
              go_roundw
              case rel => exact ⟨i + 1, g, c, mem, fuse, off, wn, by omega, by omega, by go_num, HP.out.drewN _, by omega, by omega⟩
              case measure => simp [intOf]; omega
            · obtain ⟨at_, rfl⟩ : ∃ at_ : Nat, qa = (at_ : Int) := ⟨qa.toNat, by omega⟩
              have hat : at_ < n := by omega
              have HS64 : Hid (qs.size = 64) := by show _ = _; omega
              clear harg
              by_cases hof : off = true ∨ fuse = 0
              · have HOF := Lib.hid hof
                clear hof
                go_wp2_with (refine wpList_load_row rfl 29 (.tmp 7) rfl bq rfl _ _ _ _ HQB.out Try.underlying29 rfl (by kernel_rfl) ?_)
                refine (rwrite_off (some ⟨g, 0, none⟩) n c fuse off wn (at_ : Int) qs _ (by omega) (by omega) HS64.out HOF.out).mono ?_
                rintro e w3 ⟨rfl, m3⟩
                have HPD := Lib.hid ((HPB.out.kept m3).kept ((Mod.refl (fun _ => False) w3).alloc (.cells (rdC (some ⟨g, 0, none⟩) n c (-1) true wn) 29)))
                have HN : Hid ((w3.alloc (.cells (rdC (some ⟨g, 0, none⟩) n c (-1) true wn) 29)).heap[w3.heap.size]? = some (.cells (rdC (some ⟨g, 0, none⟩) n c (-1) true wn) 29 (0, 0))) := new_block _ _ _ _ rfl
                have HNE : Hid (w3.heap.size ≠ bd ∧ w3.heap.size ≠ gd ∧ w3.heap.size ≠ bq) := by
                  have d := (HPB.out.kept m3)
                  have h1 := lt_of_block d.dev.dev
                  have h2 := lt_of_block d.dev.row
                  have h3 := lt_of_block d.q
                  show _ ∧ _ ∧ _
                  omega
                have ca3 : (w3.alloc (.cells (rdC (some ⟨g, 0, none⟩) n c (-1) true wn) 29)).cell? ⟨wr.heap.size, 1, none⟩ = some (.int .i64 (at_ : Int)) := (m3.tr ((Mod.refl (fun _ => False) w3).alloc _)).at caB
                clear m3
                go_wp2_with fail
                refine (write_off HPD.out.dev (at_ : Int) qs (by omega) (by omega) HS64.out HOF.out).mono ?_
                rintro e w4 ⟨rfl, d4, m4⟩
                have HN4 := Lib.hid (m4.blk HN.out (fun e => HNE.out.1 e))
                have HQ4 := Lib.hid (m4.blk HPD.out.q (fun e => HPD.out.ne.1 e))
                go_wp2_with (first | (refine wpList_load_row rfl 29 (.tmp 12) rfl w3.heap.size rfl _ _ _ _ HN4.out Try.underlying29 rfl (by kernel_rfl) ?_) | (refine wpList_store_row rfl 29 (.tmp 7) (.tmp 95) rfl bq (rdC (some ⟨g, 0, none⟩) n c (-1) true wn) rfl rfl _ _ HQ4.out (by kernel_rfl) rfl (rdC_one _ _ _ _ _ _) ?_))
                have mq := (Mod.refl (fun i => i = bq) w4).row (fun _ => rfl) (rdC (some ⟨g, 0, none⟩) n c (-1) true wn)
                have HP : Hid (Pl w (w4.setRow bq (rdC (some ⟨g, 0, none⟩) n c (-1) true wn)) bd gd bq g n c mem (-1) true wn) :=
                  ⟨(d4).kept mq (fun e => HPD.out.ne.1 e.symm) (fun e => HPD.out.ne.2.1 e.symm), setRow_heap _ _ _ _ _ _ HQ4.out, (HPD.out.sl.keptS m4 (fun e => HPD.out.ne.2.2.1 e)).row ((And.intro HPD.out.ne.2.2.1 (And.intro HPD.out.ne.2.2.2.1 HPD.out.ne.2.2.2.2))).2.2 _, HPD.out.cap, ⟨by omega, by omega⟩, (HPD.out.m.trans m4 (U := fun i => False) (fun _ e => e) (fun i hi e => by have := HPD.out.new.1; omega)).row (fun hh => by have := HPD.out.new.2.2; omega) _, ⟨HPD.out.ne.1, HPD.out.ne.2.1, ((And.intro HPD.out.ne.2.2.1 (And.intro HPD.out.ne.2.2.2.1 HPD.out.ne.2.2.2.2))).1, ((And.intro HPD.out.ne.2.2.1 (And.intro HPD.out.ne.2.2.2.1 HPD.out.ne.2.2.2.2))).2.1, ((And.intro HPD.out.ne.2.2.1 (And.intro HPD.out.ne.2.2.2.1 HPD.out.ne.2.2.2.2))).2.2⟩, HPD.out.new⟩
                clear mq
                have HDV := Lib.hid HP.out.dev
                obtain ⟨wF, hwF⟩ : ∃ wF : World, wF = (w4.setRow bq (rdC (some ⟨g, 0, none⟩) n c (-1) true wn)) := ⟨_, rfl⟩
                rw [← hwF] at HP HDV ⊢
                clear hwF
                have hq0 : wF.cell? ⟨bq, 0, none⟩ = some (.slice (some ⟨g, 0, none⟩) n c) := blk_cell (o := 0) HP.out.q rfl
                have hq2 : wF.cell? ⟨bq, 2, none⟩ = some (.bool true) := blk_cell (o := 2) HP.out.q rfl
                have hq3 : wF.cell? ⟨bq, 3, none⟩ = some (.int .i64 wn) := blk_cell (o := 3) HP.out.q rfl
                have hoo : (true != true) = false := by simp
                have hww : ((wn : Int) != wn) = false := by rw [bne_eq_false_iff_eq]
                have hnn : ((n : Int) != (n : Int)) = false := by rw [bne_eq_false_iff_eq]
                go_upto_region 34 with fail
                go_quiet ((first | (go_at_call 20; exact Calls.quiet_of_same (off_same (HDV.out.drewN _))) | (go_at_call 21; exact Calls.quiet_of_same (writes_same (HDV.out.drewN _))) | (go_at_call 22; exact Calls.quiet_of_same (size_same (HDV.out.drewN _)))))
                go_wp2_with fail
                go_roundw
                case rel => exact ⟨i + 1, g, c, mem, (-1), true, wn, by omega, by omega, by go_num, HP.out.drewN _, by omega, by omega⟩
                case measure => simp [intOf]; omega
              · obtain rfl : off = false := by cases off; rfl; exact absurd (Or.inl rfl) hof
                have HOF : Hid (fuse ≠ 0) := fun e => hof (Or.inr e)
                clear hof
                obtain ⟨fu, HFU⟩ : ∃ fu : Int, Hid (fu = if 0 < fuse then fuse - 1 else fuse) := ⟨_, rfl⟩
                have HFB : Hid (-1 ≤ fu ∧ fu ≤ 9223372036854775807) := by
                  have h1 := HPB.out.fu
                  show _ ∧ _
                  rw [HFU.out]
                  split <;> omega
                go_wp2_with (refine wpList_load_row rfl 29 (.tmp 7) rfl bq rfl _ _ _ _ HQB.out Try.underlying29 rfl (by kernel_rfl) ?_)
                refine (rwrite_ok g n c fuse wn at_ qs (fun k => blk mem k) wB hat (by omega) HPB.out.cap.1 HPB.out.cap.2 HS64.out HOF.out HPB.out.sl hwn0 (by omega) HPB.out.fu.2 fu HFU.out).mono ?_
                rintro e w3 ⟨⟨g2, c2, rfl, hcp1, hcp2, sl2, hge2⟩, m3⟩
                have HS2 := Lib.hid sl2
                have HC2 := Lib.hid (And.intro hcp1 hcp2)
                have HG2 : Hid (g2 ≠ bd ∧ g2 ≠ gd ∧ g2 ≠ bq) := by
                  have h1 := lt_of_block HPB.out.dev.dev
                  have h2 := lt_of_block HPB.out.dev.row
                  have h3 := lt_of_block HPB.out.q
                  show _ ∧ _ ∧ _
                  omega
                clear sl2 hcp1 hcp2 hge2
                have HPD := Lib.hid ((HPB.out.kept m3).kept ((Mod.refl (fun _ => False) w3).alloc (.cells (rdC (some ⟨g2, 0, none⟩) n c2 fu false (wn + 1)) 29)))
                have HN : Hid ((w3.alloc (.cells (rdC (some ⟨g2, 0, none⟩) n c2 fu false (wn + 1)) 29)).heap[w3.heap.size]? = some (.cells (rdC (some ⟨g2, 0, none⟩) n c2 fu false (wn + 1)) 29 (0, 0))) := new_block _ _ _ _ rfl
                have HNE : Hid (w3.heap.size ≠ bd ∧ w3.heap.size ≠ gd ∧ w3.heap.size ≠ bq) := by
                  have d := (HPB.out.kept m3)
                  have h1 := lt_of_block d.dev.dev
                  have h2 := lt_of_block d.dev.row
                  have h3 := lt_of_block d.q
                  show _ ∧ _ ∧ _
                  omega
                have ca3 : (w3.alloc (.cells (rdC (some ⟨g2, 0, none⟩) n c2 fu false (wn + 1)) 29)).cell? ⟨wr.heap.size, 1, none⟩ = some (.int .i64 (at_ : Int)) := (m3.tr ((Mod.refl (fun _ => False) w3).alloc _)).at caB
                clear m3
                go_wp2_with fail
                refine (write_ok HPD.out.dev at_ qs hat HS64.out HOF.out hwn0 (by omega) HPD.out.fu.1 HPD.out.fu.2 (by omega)).mono ?_
                rintro e w4 ⟨rfl, d4, m4⟩
                rw [← HFU.out] at d4
                have HN4 := Lib.hid (m4.blk HN.out (fun e => e.elim (fun e => HNE.out.1 e) (fun e => HNE.out.2.1 e)))
                have HQ4 := Lib.hid (m4.blk HPD.out.q (fun e => e.elim (fun e => HPD.out.ne.1 e) (fun e => HPD.out.ne.2.1 e)))
                go_wp2_with (first | (refine wpList_load_row rfl 29 (.tmp 12) rfl w3.heap.size rfl _ _ _ _ HN4.out Try.underlying29 rfl (by kernel_rfl) ?_) | (refine wpList_store_row rfl 29 (.tmp 7) (.tmp 95) rfl bq (rdC (some ⟨g2, 0, none⟩) n c2 fu false (wn + 1)) rfl rfl _ _ HQ4.out (by kernel_rfl) rfl (rdC_one _ _ _ _ _ _) ?_))
                have mq := (Mod.refl (fun i => i = bq) w4).row (fun _ => rfl) (rdC (some ⟨g2, 0, none⟩) n c2 fu false (wn + 1))
                have HP : Hid (Pl w (w4.setRow bq (rdC (some ⟨g2, 0, none⟩) n c2 fu false (wn + 1))) bd gd bq g2 n c2 (wrote mem at_ qs) fu false (wn + 1)) :=
                  ⟨(d4).kept mq (fun e => HPD.out.ne.1 e.symm) (fun e => HPD.out.ne.2.1 e.symm), setRow_heap _ _ _ _ _ _ HQ4.out, (((HS2.out.kept ((Mod.refl (fun _ => False) w3).alloc _)).keptS m4 (fun e => e.elim (fun e => HG2.out.1 e) (fun e => HG2.out.2.1 e))).eq (fun k hk => wrote_at HPD.out.dev.len hat hk HS64.out)).row (HG2.out).2.2 _, HC2.out, HFB.out, (HPD.out.m.trans m4 (U := fun i => False) (fun _ e => e) (fun i hi e => by have h1 := HPD.out.new.1; have h2 := HPD.out.new.2.1; rcases e with e | e <;> omega)).row (fun hh => by have := HPD.out.new.2.2; omega) _, ⟨HPD.out.ne.1, HPD.out.ne.2.1, (HG2.out).1, (HG2.out).2.1, (HG2.out).2.2⟩, HPD.out.new⟩
                clear mq
                have HDV := Lib.hid HP.out.dev
                obtain ⟨wF, hwF⟩ : ∃ wF : World, wF = (w4.setRow bq (rdC (some ⟨g2, 0, none⟩) n c2 fu false (wn + 1))) := ⟨_, rfl⟩
                rw [← hwF] at HP HDV ⊢
                clear hwF
                have hq0 : wF.cell? ⟨bq, 0, none⟩ = some (.slice (some ⟨g2, 0, none⟩) n c2) := blk_cell (o := 0) HP.out.q rfl
                have hq2 : wF.cell? ⟨bq, 2, none⟩ = some (.bool false) := blk_cell (o := 2) HP.out.q rfl
                have hq3 : wF.cell? ⟨bq, 3, none⟩ = some (.int .i64 (wn + 1)) := blk_cell (o := 3) HP.out.q rfl
                have hoo : (false != false) = false := by simp
                have hww : (((wn + 1) : Int) != (wn + 1)) = false := by rw [bne_eq_false_iff_eq]
                have hnn : ((n : Int) != (n : Int)) = false := by rw [bne_eq_false_iff_eq]
                go_upto_region 34 with fail
                go_quiet ((first | (go_at_call 20; exact Calls.quiet_of_same (off_same (HDV.out.drewN _))) | (go_at_call 21; exact Calls.quiet_of_same (writes_same (HDV.out.drewN _))) | (go_at_call 22; exact Calls.quiet_of_same (size_same (HDV.out.drewN _)))))
                go_wp2_with fail
                go_roundw
                case rel => exact ⟨i + 1, g2, c2, (wrote mem at_ qs), fu, false, (wn + 1), by omega, by omega, by go_num, HP.out.drewN _, by omega, by omega⟩
                case measure => simp [intOf]; omega
        · by_cases hk2 : qk = 2
          · skip
            have k1 : (qk == 1) = false := by rw [beq_eq_false_iff_ne]; omega
            have k2 : (qk == 2) = true := by rw [beq_iff_eq]; omega
            have k3 : (qk == 3) = false := by rw [beq_eq_false_iff_ne]; omega
            clear hk1 hk2
            have HDW := Lib.hid HPA.out.dev
            rw [HOB.out] at HDW
            by_cases harg : qa < 0 ∨ (n : Int) ≤ qa
            · have HARG := Lib.hid harg
              clear harg
              go_upto_region 27 with (go_at_call 14; refine (read_arg HDW.out qa HARG.out).mono ?_; rintro e w4 ⟨rfl, rfl⟩)
              have ca1 : (wr.alloc ob).cell? ⟨wr.heap.size, 1, none⟩ = some (.int .i64 qa) := by rw [HOB.out]; exact cell_new wr _ 34 1 _ rfl
              rw [← HOB.out]
              go_wp2_with (refine wpList_load_row rfl 29 (.tmp 7) rfl bq rfl _ _ _ _ HQ0.out Try.underlying29 rfl (by kernel_rfl) ?_)
              refine (rread_arg (some ⟨g, 0, none⟩) n c fuse off wn qa _ HARG.out).mono ?_
              rintro e w5 ⟨rfl, m5⟩
              have HP := Lib.hid (HPA.out.kept m5)
              clear m5
              have HDV := Lib.hid HP.out.dev
              obtain ⟨wF, hwF⟩ : ∃ wF : World, wF = w5 := ⟨_, rfl⟩
              rw [← hwF] at HP HDV ⊢
              clear hwF
              have hq0 : wF.cell? ⟨bq, 0, none⟩ = some (.slice (some ⟨g, 0, none⟩) n c) := blk_cell (o := 0) HP.out.q rfl
              have hq2 : wF.cell? ⟨bq, 2, none⟩ = some (.bool off) := blk_cell (o := 2) HP.out.q rfl
              have hq3 : wF.cell? ⟨bq, 3, none⟩ = some (.int .i64 wn) := blk_cell (o := 3) HP.out.q rfl
              have hoo : (off != off) = false := by simp
              have hww : ((wn : Int) != wn) = false := by rw [bne_eq_false_iff_eq]
              have hnn : ((n : Int) != (n : Int)) = false := by rw [bne_eq_false_iff_eq]
              go_upto_region 34 with fail
              go_quiet ((first | (go_at_call 20; exact Calls.quiet_of_same (off_same (HDV.out.drewN _))) | (go_at_call 21; exact Calls.quiet_of_same (writes_same (HDV.out.drewN _))) | (go_at_call 22; exact Calls.quiet_of_same (size_same (HDV.out.drewN _)))))
              go_wp2_with fail
              go_roundw
              case rel => exact ⟨i + 1, g, c, mem, fuse, off, wn, by omega, by omega, by go_num, HP.out.drewN _, by omega, by omega⟩
              case measure => simp [intOf]; omega
            · obtain ⟨at_, rfl⟩ : ∃ at_ : Nat, qa = (at_ : Int) := ⟨qa.toNat, by omega⟩
              have hat : at_ < n := by omega
              clear harg
              cases off
              · have HSLA := Lib.hid HPA.out.sl
                go_upto_region 27 with (go_at_call 14; refine (read_ok HDW.out at_ hat (by omega)).mono ?_; rintro e w4 ⟨rfl, rfl⟩)
                have ca1 : (wr.alloc ob).cell? ⟨wr.heap.size, 1, none⟩ = some (.int .i64 (at_ : Int)) := by rw [HOB.out]; exact cell_new wr _ 34 1 _ rfl
                rw [← HOB.out]
                go_wp2_with (refine wpList_load_row rfl 29 (.tmp 7) rfl bq rfl _ _ _ _ HQ0.out Try.underlying29 rfl (by kernel_rfl) ?_)
                refine (rread_ok g n c fuse wn at_ (fun k => blk mem k) _ hat HSLA.out).mono ?_
                rintro e w5 ⟨rfl, m5⟩
                have HP := Lib.hid (HPA.out.kept m5)
                clear m5
                have HDV := Lib.hid HP.out.dev
                obtain ⟨wF, hwF⟩ : ∃ wF : World, wF = w5 := ⟨_, rfl⟩
                rw [← hwF] at HP HDV ⊢
                clear hwF
                have hq0 : wF.cell? ⟨bq, 0, none⟩ = some (.slice (some ⟨g, 0, none⟩) n c) := blk_cell (o := 0) HP.out.q rfl
                have hq2 : wF.cell? ⟨bq, 2, none⟩ = some (.bool false) := blk_cell (o := 2) HP.out.q rfl
                have hq3 : wF.cell? ⟨bq, 3, none⟩ = some (.int .i64 wn) := blk_cell (o := 3) HP.out.q rfl
                have hoo : (false != false) = false := by simp
                have hww : ((wn : Int) != wn) = false := by rw [bne_eq_false_iff_eq]
                have hnn : ((n : Int) != (n : Int)) = false := by rw [bne_eq_false_iff_eq]
                go_upto_region 34 with fail
                go_quiet ((first | (go_at_call 20; exact Calls.quiet_of_same (off_same (HDV.out.drewN _))) | (go_at_call 21; exact Calls.quiet_of_same (writes_same (HDV.out.drewN _))) | (go_at_call 22; exact Calls.quiet_of_same (size_same (HDV.out.drewN _)))))
                go_wp2_with fail
                go_roundw
                case rel => exact ⟨i + 1, g, c, mem, fuse, false, wn, by omega, by omega, by go_num, HP.out.drewN _, by omega, by omega⟩
                case measure => simp [intOf]; omega
              · skip
                go_upto_region 27 with (go_at_call 14; refine (read_off HDW.out (at_ : Int) (by omega) (by omega)).mono ?_; rintro e w4 ⟨rfl, rfl⟩)
                have ca1 : (wr.alloc ob).cell? ⟨wr.heap.size, 1, none⟩ = some (.int .i64 (at_ : Int)) := by rw [HOB.out]; exact cell_new wr _ 34 1 _ rfl
                rw [← HOB.out]
                go_wp2_with (refine wpList_load_row rfl 29 (.tmp 7) rfl bq rfl _ _ _ _ HQ0.out Try.underlying29 rfl (by kernel_rfl) ?_)
                refine (rread_off (some ⟨g, 0, none⟩) n c fuse wn (at_ : Int) _ (by omega) (by omega)).mono ?_
                rintro e w5 ⟨rfl, m5⟩
                have HP := Lib.hid (HPA.out.kept m5)
                clear m5
                have HDV := Lib.hid HP.out.dev
                obtain ⟨wF, hwF⟩ : ∃ wF : World, wF = w5 := ⟨_, rfl⟩
                rw [← hwF] at HP HDV ⊢
                clear hwF
                have hq0 : wF.cell? ⟨bq, 0, none⟩ = some (.slice (some ⟨g, 0, none⟩) n c) := blk_cell (o := 0) HP.out.q rfl
                have hq2 : wF.cell? ⟨bq, 2, none⟩ = some (.bool true) := blk_cell (o := 2) HP.out.q rfl
                have hq3 : wF.cell? ⟨bq, 3, none⟩ = some (.int .i64 wn) := blk_cell (o := 3) HP.out.q rfl
                have hoo : (true != true) = false := by simp
                have hww : ((wn : Int) != wn) = false := by rw [bne_eq_false_iff_eq]
                have hnn : ((n : Int) != (n : Int)) = false := by rw [bne_eq_false_iff_eq]
                go_upto_region 34 with fail
                go_quiet ((first | (go_at_call 20; exact Calls.quiet_of_same (off_same (HDV.out.drewN _))) | (go_at_call 21; exact Calls.quiet_of_same (writes_same (HDV.out.drewN _))) | (go_at_call 22; exact Calls.quiet_of_same (size_same (HDV.out.drewN _)))))
                go_wp2_with fail
                go_roundw
                case rel => exact ⟨i + 1, g, c, mem, fuse, true, wn, by omega, by omega, by go_num, HP.out.drewN _, by omega, by omega⟩
                case measure => simp [intOf]; omega
          · by_cases hk3 : qk = 3
            · skip
              have k1 : (qk == 1) = false := by rw [beq_eq_false_iff_ne]; omega
              have k2 : (qk == 2) = false := by rw [beq_eq_false_iff_ne]; omega
              have k3 : (qk == 3) = true := by rw [beq_iff_eq]; omega
              clear hk1 hk2 hk3
              go_upto_region 31 with fail
              rw [← HOB.out]
              have ca1 : (wr.alloc ob).cell? ⟨wr.heap.size, 1, none⟩ = some (.int .i64 qa) := by rw [HOB.out]; exact cell_new wr _ 34 1 _ rfl
              go_wp2_with (refine wpList_load_row rfl 29 (.tmp 7) rfl bq rfl _ _ _ _ HQ0.out Try.underlying29 rfl (by kernel_rfl) ?_)
              refine (rfuse_any (some ⟨g, 0, none⟩) n c fuse off wn qa _).mono ?_
              rintro e w3 ⟨rfl, m3⟩
              have HP3 := Lib.hid (HPA.out.kept m3)
              have HQ3 := Lib.hid HP3.out.q
              have ca3 := m3.at ca1
              clear m3 ca1
              have HF : Hid (-1 ≤ max qa (-1) ∧ max qa (-1) ≤ 9223372036854775807) := by show _ ∧ _; omega
              obtain ⟨fu2, HFE⟩ : ∃ fu2, Hid (max qa (-1) = fu2) := ⟨_, rfl⟩
              rw [HFE.out] at HF ⊢
              have hbqw := lt_of_block HP0.out.q
              have ca4 : (w3.setRow bq (rdC (some ⟨g, 0, none⟩) n c fu2 off wn)).cell? ⟨wr.heap.size, 1, none⟩ = some (.int .i64 qa) := by rw [World.cell?_of_block (w := w3) (setRow_other w3 bq wr.heap.size _ (by omega))]; exact ca3
              go_wp2_with (refine wpList_store_row rfl 29 (.tmp 7) (.tmp 125) rfl bq (rdC (some ⟨g, 0, none⟩) n c fu2 off wn) rfl rfl _ _ HQ3.out (by kernel_rfl) rfl (rdC_one _ _ _ _ _ _) ?_)
              have mq := (Mod.refl (fun i => i = bq) w3).row (fun _ => rfl) (rdC (some ⟨g, 0, none⟩) n c fu2 off wn)
              have HD4 := Lib.hid (HP3.out.dev.kept mq (fun e => HP3.out.ne.1 e.symm) (fun e => HP3.out.ne.2.1 e.symm))
              go_wp2_with fail
              refine (fuse_dev HD4.out h1 qa).mono ?_
              rintro e w5 ⟨rfl, d5, m5⟩
              rw [HFE.out] at d5
              have HP : Hid (Pl w w5 bd gd bq g n c mem fu2 off wn) :=
                ⟨d5, m5.blk (setRow_heap _ _ _ _ _ _ HQ3.out) (fun e => HP3.out.ne.1 e), (HP3.out.sl.row HP3.out.ne.2.2.2.2 _).keptS m5 (fun e => HP3.out.ne.2.2.1 e), HP3.out.cap, HF.out,
                  (HP3.out.m.trans mq (U := fun i => False) (fun _ e => e) (fun i hi e => by have := HP3.out.new.2.2; omega)).trans m5 (U := fun i => False) (fun _ e => e) (fun i hi e => by have := HP3.out.new.1; omega), HP3.out.ne, HP3.out.new⟩
              clear d5 m5 mq
              have HDV := Lib.hid HP.out.dev
              obtain ⟨wF, hwF⟩ : ∃ wF : World, wF = w5 := ⟨_, rfl⟩
              rw [← hwF] at HP HDV ⊢
              clear hwF
              have hq0 : wF.cell? ⟨bq, 0, none⟩ = some (.slice (some ⟨g, 0, none⟩) n c) := blk_cell (o := 0) HP.out.q rfl
              have hq2 : wF.cell? ⟨bq, 2, none⟩ = some (.bool off) := blk_cell (o := 2) HP.out.q rfl
              have hq3 : wF.cell? ⟨bq, 3, none⟩ = some (.int .i64 wn) := blk_cell (o := 3) HP.out.q rfl
              have hoo : (off != off) = false := by simp
              have hww : ((wn : Int) != wn) = false := by rw [bne_eq_false_iff_eq]
              have hnn : ((n : Int) != (n : Int)) = false := by rw [bne_eq_false_iff_eq]
              go_upto_region 34 with fail
              go_quiet ((first | (go_at_call 20; exact Calls.quiet_of_same (off_same (HDV.out.drewN _))) | (go_at_call 21; exact Calls.quiet_of_same (writes_same (HDV.out.drewN _))) | (go_at_call 22; exact Calls.quiet_of_same (size_same (HDV.out.drewN _)))))
              go_wp2_with fail
              go_roundw
              case rel => exact ⟨i + 1, g, c, mem, fu2, off, wn, by omega, by omega, by go_num, HP.out.drewN _, by omega, by omega⟩
              case measure => simp [intOf]; omega
            · have k1 : (qk == 1) = false := by rw [beq_eq_false_iff_ne]; exact hk1
              have k2 : (qk == 2) = false := by rw [beq_eq_false_iff_ne]; exact hk2
              have k3 : (qk == 3) = false := by rw [beq_eq_false_iff_ne]; exact hk3
              clear hk1 hk2 hk3
              go_upto_region 14 with fail
              rw [← HOB.out]
              go_wp2_with (refine wpList_load_row rfl 29 (.tmp 7) rfl bq rfl _ _ _ _ HQ0.out Try.underlying29 rfl (by kernel_rfl) ?_)
              refine (ron_any (some ⟨g, 0, none⟩) n c fuse off wn _).mono ?_
              rintro e w3 ⟨rfl, m3⟩
              have HP3 := Lib.hid (HPA.out.kept m3)
              have HQ3 := Lib.hid HP3.out.q
              clear m3
              go_wp2_with (refine wpList_store_row rfl 29 (.tmp 7) (.tmp 67) rfl bq (rdC (some ⟨g, 0, none⟩) n c (-1) false wn) rfl rfl _ _ HQ3.out (by kernel_rfl) rfl (rdC_one _ _ _ _ _ _) ?_)
              have mq := (Mod.refl (fun i => i = bq) w3).row (fun _ => rfl) (rdC (some ⟨g, 0, none⟩) n c (-1) false wn)
              have HD4 := Lib.hid (HP3.out.dev.kept mq (fun e => HP3.out.ne.1 e.symm) (fun e => HP3.out.ne.2.1 e.symm))
              go_wp2_with fail
              refine (on_dev HD4.out h1).mono ?_
              rintro e w5 ⟨rfl, d5, m5⟩
              have HP : Hid (Pl w w5 bd gd bq g n c mem (-1) false wn) :=
                ⟨d5, m5.blk (setRow_heap _ _ _ _ _ _ HQ3.out) (fun e => HP3.out.ne.1 e), (HP3.out.sl.row HP3.out.ne.2.2.2.2 _).keptS m5 (fun e => HP3.out.ne.2.2.1 e), HP3.out.cap, ⟨by omega, by omega⟩,
                  (HP3.out.m.trans mq (U := fun i => False) (fun _ e => e) (fun i hi e => by have := HP3.out.new.2.2; omega)).trans m5 (U := fun i => False) (fun _ e => e) (fun i hi e => by have := HP3.out.new.1; omega), HP3.out.ne, HP3.out.new⟩
              clear d5 m5 mq
              have HDV := Lib.hid HP.out.dev
              obtain ⟨wF, hwF⟩ : ∃ wF : World, wF = w5 := ⟨_, rfl⟩
              rw [← hwF] at HP HDV ⊢
              clear hwF
              have hq0 : wF.cell? ⟨bq, 0, none⟩ = some (.slice (some ⟨g, 0, none⟩) n c) := blk_cell (o := 0) HP.out.q rfl
              have hq2 : wF.cell? ⟨bq, 2, none⟩ = some (.bool false) := blk_cell (o := 2) HP.out.q rfl
              have hq3 : wF.cell? ⟨bq, 3, none⟩ = some (.int .i64 wn) := blk_cell (o := 3) HP.out.q rfl
              have hoo : (false != false) = false := by simp
              have hww : ((wn : Int) != wn) = false := by rw [bne_eq_false_iff_eq]
              have hnn : ((n : Int) != (n : Int)) = false := by rw [bne_eq_false_iff_eq]
              go_upto_region 34 with fail
              go_quiet ((first | (go_at_call 20; exact Calls.quiet_of_same (off_same (HDV.out.drewN _))) | (go_at_call 21; exact Calls.quiet_of_same (writes_same (HDV.out.drewN _))) | (go_at_call 22; exact Calls.quiet_of_same (size_same (HDV.out.drewN _)))))
              go_wp2_with fail
              go_roundw
              case rel => exact ⟨i + 1, g, c, mem, (-1), false, wn, by omega, by omega, by go_num, HP.out.drewN _, by omega, by omega⟩
              case measure => simp [intOf]; omega
    · skip
      by_cases him2 : i < m
      · have hlt1 : (i : Int) < (m : Int) := by omega
        have hlt2 : ¬ (i : Int) < 100 := by omega
        clear hrun
        go_wp2_with fail
        refine (awake_any _).mono ?_
        rintro e w6 ⟨rfl, m6⟩
        go_wp2_with fail
        go_ret
        exact ⟨rfl, HP0.out.m.tr m6⟩
      · have hlt1 : ¬ (i : Int) < (m : Int) := by omega
        clear hrun
        go_wp2_with fail
        refine (awake_any _).mono ?_
        rintro e w6 ⟨rfl, m6⟩
        go_wp2_with fail
        go_ret
        exact ⟨rfl, HP0.out.m.tr m6⟩
end Go.Proofs.Ythamdkjcbbapkaa
