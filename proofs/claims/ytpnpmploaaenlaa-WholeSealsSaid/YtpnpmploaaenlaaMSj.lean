/- A quarter round: plain words and both walks. The reference's quarter round: the walk. -/
import Derived.Test.YtpnpmploaaenlaaMSh
import Derived.Test.YtpnpmploaaenlaaMK
import Derived.Test.YtpnpmploaaenlaaMSv
namespace Go.Proofs.Ytpnpmploaaenlaa
open Go.RowKit
set_option linter.unusedSimpArgs false
set_option linter.unusedVariables false
def ad (a b : Nat) : Nat := (a + b) % 4294967296
def xn (a b : Nat) (n : Int) : Nat := Wd.rotN (a ^^^ b) (Wd.turnN n)
theorem ad_lt (a b : Nat) : ad a b < 4294967296 := Nat.mod_lt _ (by decide)
theorem xn_lt (a b : Nat) (n : Int) (ha : a < 4294967296) (hb : b < 4294967296) : xn a b n < 4294967296 := Wd.rotN_lt _ _ (xor_lt32 ha hb)
theorem results_tmp4 {fn : Func} {t u v x : Tmp} (h : fn.results = #[.tmp t, .tmp u, .tmp v, .tmp x]) (tmps : Array Value) (P : Program) (w : World) :
    (results fn tmps).run P w = .ok (.tuple #[tmps.getD t undef, tmps.getD u undef, tmps.getD v undef, tmps.getD x undef]) w := by
  simp [results, h]
/-- A quarter round over any sum A and any turned exclusive or R. -/
def qA (A : Nat → Nat → Nat) (R : Nat → Nat → Int → Nat) (a b c d : Nat) : Nat := A (A a b) (R b (A c (R d (A a b) 16)) 12)
def qD (A : Nat → Nat → Nat) (R : Nat → Nat → Int → Nat) (a b c d : Nat) : Nat := R (R d (A a b) 16) (qA A R a b c d) 8
def qC (A : Nat → Nat → Nat) (R : Nat → Nat → Int → Nat) (a b c d : Nat) : Nat := A (A c (R d (A a b) 16)) (qD A R a b c d)
def qB (A : Nat → Nat → Nat) (R : Nat → Nat → Int → Nat) (a b c d : Nat) : Nat := R (R b (A c (R d (A a b) 16)) 12) (qC A R a b c d) 7
structure Quart (A : Nat → Nat → Nat) (R : Nat → Nat → Int → Nat) : Prop where
  al : ∀ x y, A x y < 4294967296
  rl : ∀ x y n, x < 4294967296 → y < 4294967296 → R x y n < 4294967296
  aw : ∀ x y : Nat, IntKind.u32.wrap ((x : Int) + (y : Int)) = ((A x y : Nat) : Int)
  am : ∀ x y : Nat, ((x : Int) + (y : Int)) % 4294967296 = ((A x y : Nat) : Int)
  rc : ∀ (x y : Nat) (n : Int) (w : World), x < 4294967296 → y < 4294967296 → Calls Try.prog 67 #[.int .u32 (bits BinOp.xor IntKind.u32 (x : Int) (y : Int)), .int .i64 n] w fun e w' => e = .returned (.int .u32 (R x y n)) ∧ w' = w
theorem quart : Quart ad xn where
  al := ad_lt
  rl := xn_lt
  aw := fun x y => by rw [IntKind.wrap_u32]; unfold ad; omega
  am := fun x y => by unfold ad; omega
  rc := fun x y n w hx hy => by
    rw [u32_xor_nat x y hx hy]
    exact (rotl_any (x ^^^ y) (xor_lt32 hx hy) n w).mono fun e w' h => ⟨h.1, h.2.symm⟩
set_option maxRecDepth 100000 in
set_option maxHeartbeats 4000000 in
theorem quarter_walk (A : Nat → Nat → Nat) (R : Nat → Nat → Int → Nat) (hQ : Quart A R) (a b c d : Nat) (ha : a < 4294967296) (hb : b < 4294967296) (hc : c < 4294967296) (hd : d < 4294967296) (w : World) :
    Calls Try.prog 38 #[.int .u32 (a : Int), .int .u32 (b : Int), .int .u32 (c : Int), .int .u32 (d : Int)] w fun e w' => e = .returned (.tuple #[.int .u32 (qA A R a b c d), .int .u32 (qB A R a b c d), .int .u32 (qC A R a b c d), .int .u32 (qD A R a b c d)]) ∧ w' = w := by
  have HQ := Lib.hid hQ
  have haw := hQ.aw
  have ham := hQ.am
  clear hQ
  go_enter Try.func38, Try.ntmps38
  go_wp2_with (go_at_call 67; refine (HQ.out.rc _ _ _ _ ?_ ?_).mono ?_; (· first | assumption | exact HQ.out.al _ _ | (refine HQ.out.rl _ _ _ ?_ ?_ <;> first | assumption | exact HQ.out.al _ _)); (· first | assumption | exact HQ.out.al _ _ | (refine HQ.out.rl _ _ _ ?_ ?_ <;> first | assumption | exact HQ.out.al _ _)); rintro e w' ⟨rfl, rfl⟩)
  exact bodyPost_ret (results_tmp4 rfl _ _ _) rfl ⟨rfl, rfl⟩
theorem quarter_any (a b c d : Nat) (ha : a < 4294967296) (hb : b < 4294967296) (hc : c < 4294967296) (hd : d < 4294967296) (w : World) :
    Calls Try.prog 38 #[.int .u32 (a : Int), .int .u32 (b : Int), .int .u32 (c : Int), .int .u32 (d : Int)] w fun e w' => e = .returned (.tuple #[.int .u32 (qA ad xn a b c d), .int .u32 (qB ad xn a b c d), .int .u32 (qC ad xn a b c d), .int .u32 (qD ad xn a b c d)]) ∧ w' = w :=
  quarter_walk ad xn quart a b c d ha hb hc hd w
end Go.Proofs.Ytpnpmploaaenlaa
namespace Go.Proofs.Ytpnpmploaaenlaa
open Go.RowKit
set_option linter.unusedSimpArgs false
set_option linter.unusedVariables false
theorem wp_still_all_any {P : Program} {id : Nat} {Q : Exit → Act → World → Prop} {a : Act} {w : World} {l : List Oper} (hm : P.follows .mixedOrders = true) (hB : Region.lexB .any l.toArray = true)
    (h : ∀ wd, w.drew = wd → wpStill P l.toArray wd (fun a' => Q .normal a' wd) l a) : (Code.region id l.toArray true).wp P Q a w := wp_still_all _ rfl hm hB (h _ rfl)
structure RQuart (A : Nat → Nat → Nat) (R : Nat → Nat → Int → Nat) : Prop where
  al : ∀ x y, A x y < 4294967296
  rl : ∀ x y n, x < 4294967296 → y < 4294967296 → R x y n < 4294967296
  am : ∀ x y : Nat, ((x : Int) + (y : Int)) % 4294967296 = ((A x y : Nat) : Int)
  rc : ∀ (x y : Nat) (n : Int) (w : World), x < 4294967296 → y < 4294967296 → Calls Try.prog 88 #[.int .i64 (bits BinOp.xor IntKind.i64 (x : Int) (y : Int)), .int .i64 n] w fun e w' => e = .returned (.int .i64 (R x y n)) ∧ ∃ m, w' = w.drewN m
  aw : ∀ x y : Nat, wrap64 ((x : Int) + (y : Int)) % 4294967296 = ((A x y : Nat) : Int)
  ai : ∀ x y : Nat, IntKind.i64.wrap ((x : Int) + (y : Int)) % 4294967296 = ((A x y : Nat) : Int)
theorem rquart : RQuart ad xn where
  al := ad_lt
  rl := xn_lt
  am := fun x y => by unfold ad; omega
  rc := fun x y n w hx hy => by
    rw [i64_xor_nat x y hx hy]
    have := rrot_q ((x ^^^ y : Nat) : Int) n w
    rw [wordN_nat _ (xor_lt32 hx hy)] at this
    exact this
  aw := fun x y => by unfold wrap64 ad; omega
  ai := fun x y => by rw [IntKind.wrap_i64]; unfold ad; omega
set_option maxRecDepth 100000 in
set_option maxHeartbeats 4000000 in
theorem rquarter_walk (A : Nat → Nat → Nat) (R : Nat → Nat → Int → Nat) (hQ : RQuart A R) (a b c d : Nat) (ha : a < 4294967296) (hb : b < 4294967296) (hc : c < 4294967296) (hd : d < 4294967296) (w : World) :
    Calls Try.prog 72 #[.agg #[.int .i64 (a : Int), .int .i64 (b : Int), .int .i64 (c : Int), .int .i64 (d : Int)]] w fun e w' => e = .returned (.agg #[.int .i64 (qA A R a b c d), .int .i64 (qB A R a b c d), .int .i64 (qC A R a b c d), .int .i64 (qD A R a b c d)]) ∧ Mod (fun _ => False) w w' := by
  have HQ := Lib.hid hQ
  clear hQ
  have ea : (a : Int) % 4294967296 = (a : Int) := by omega
  have eb : (b : Int) % 4294967296 = (b : Int) := by omega
  have ec : (c : Int) % 4294967296 = (c : Int) := by omega
  have ed : (d : Int) % 4294967296 = (d : Int) := by omega
  go_enter Try.func72, Try.ntmps72
  go_wp2_with fail
  refine wp_still_all_any (by kernel_rfl) (by kernel_rfl) (fun wd hwd => ?_)
  have B1 : wd.heap[w.heap.size]? = some (.cells #[.int .i64 (a : Int), .int .i64 (b : Int), .int .i64 (c : Int), .int .i64 (d : Int)] 93 (0, 0)) := by
    subst hwd
    exact ((Mod.refl (fun _ => False) _).alloc _).blk (new_block w _ _ _ rfl) (fun e => e)
  have B2 : wd.heap[w.heap.size + 1]? = some (.cells #[.int .i64 0, .int .i64 0, .int .i64 0, .int .i64 0] 93 (0, 0)) := by
    subst hwd
    exact new_block _ _ _ _ (by simp)
  have HM : Hid (Mod (fun _ => False) w wd) := by subst hwd; exact (((Mod.refl _ w).alloc _).alloc _).drew
  have k0 := blk_cell (o := 0) B1 rfl
  have k1 := blk_cell (o := 1) B1 rfl
  have k2 := blk_cell (o := 2) B1 rfl
  have k3 := blk_cell (o := 3) B1 rfl
  have HB2 := Lib.hid B2
  clear hwd B1 B2
  repeat still_step
  still_call (Wd.word_same _ _)
  repeat still_step
  still_call (Wd.word_same _ _)
  repeat still_step
  still_call (Wd.word_same _ _)
  repeat still_step
  still_call (Wd.word_same _ _)
  repeat still_step
  refine wpStill_nil ?_
  clear ea eb ec ed k0 k1 k2 k3
  have ham := HQ.out.am
  have haw := HQ.out.aw
  have hai := HQ.out.ai
  go_wp2_with (first | (go_at_call 77; refine (Wd.word_same _ _).mono ?_; rintro e w' ⟨rfl, rfl⟩) | (go_at_call 88; refine (HQ.out.rc _ _ _ _ ?_ ?_).mono ?_; (· first | assumption | exact HQ.out.al _ _ | (refine HQ.out.rl _ _ _ ?_ ?_ <;> first | assumption | exact HQ.out.al _ _)); (· first | assumption | exact HQ.out.al _ _ | (refine HQ.out.rl _ _ _ ?_ ?_ <;> first | assumption | exact HQ.out.al _ _)); rintro e w' ⟨rfl, n1, rfl⟩) | (refine wpList_store_row rfl 93 (.tmp 2) (.tmp 55) rfl (w.heap.size + 1) _ rfl rfl _ _ HB2.out (by kernel_rfl) rfl (by simp [Value.oneCell']) ?_))
  refine bodyPost_ret (v := .agg #[.int .i64 (qA A R a b c d), .int .i64 (qB A R a b c d), .int .i64 (qC A R a b c d), .int .i64 (qD A R a b c d)]) (results_cell_row (P := Try.prog) (fn := Try.f72) (p := 2) (ty := 93) rfl _ _ _ _ _ _ _ rfl (setRow_heap _ _ _ _ _ _ HB2.out) Try.underlying93 rfl (by kernel_rfl)) rfl ⟨rfl, (HM.out.tr (Mod.drewN _ _)).row (fun hh => by omega) _⟩
theorem rquarter_any (a b c d : Nat) (ha : a < 4294967296) (hb : b < 4294967296) (hc : c < 4294967296) (hd : d < 4294967296) (w : World) :
    Calls Try.prog 72 #[.agg #[.int .i64 (a : Int), .int .i64 (b : Int), .int .i64 (c : Int), .int .i64 (d : Int)]] w fun e w' => e = .returned (.agg #[.int .i64 (qA ad xn a b c d), .int .i64 (qB ad xn a b c d), .int .i64 (qC ad xn a b c d), .int .i64 (qD ad xn a b c d)]) ∧ Mod (fun _ => False) w w' :=
  rquarter_walk ad xn rquart a b c d ha hb hc hd w
end Go.Proofs.Ytpnpmploaaenlaa
