/- slices.Repeat of one number; Fold's closure; a gate of the call's own. -/
import Derived.Test.YtlafiddfplhafaaFc21
import Derived.Deep.RegionLaw
import Derived.Test.YtlafiddfplhafaaFc02
import Derived.Test.YtlafiddfplhafaaFc04
import Derived.Test.YtlafiddfplhafaaFc16
import Derived.Test.YtlafiddfplhafaaFc17
namespace Go.Proofs.Ytlafiddfplhafaa
set_option linter.unusedVariables false
set_option linter.unusedSimpArgs false
set_option linter.unusedVariables false
set_option linter.unusedSimpArgs false
open Go.RowKit
set_option maxRecDepth 100000 in
set_option maxHeartbeats 2000000 in
theorem mul64_one (n : Nat) (w : World) (hn : n ≤ 20) :
    Calls Try.prog 100 #[.int .u64 1, .int .u64 n] w fun e w' => e = .returned (Pr (.int .u64 0) (.int .u64 n)) ∧ w' = w := by
  have h1 : bits .and .u64 (n : Int) 4294967295 = n := by
    have : n = 0 ∨ n = 1 ∨ n = 2 ∨ n = 3 ∨ n = 4 ∨ n = 5 ∨ n = 6 ∨ n = 7 ∨ n = 8 ∨ n = 9 ∨ n = 10 ∨ n = 11 ∨ n = 12 ∨ n = 13 ∨ n = 14 ∨ n = 15 ∨ n = 16 ∨ n = 17 ∨ n = 18 ∨ n = 19 ∨ n = 20 := by omega
    rcases this with rfl | rfl | rfl | rfl | rfl | rfl | rfl | rfl | rfl | rfl | rfl | rfl | rfl | rfl | rfl | rfl | rfl | rfl | rfl | rfl | rfl <;> decide
  have HN := Lib.hid hn
  clear hn
  go_enter Try.func100, Try.ntmps100
  go_wp2
  have hn := HN.out
  have e1 : bits .and .u64 1 4294967295 = 1 := by decide
  have e2 : IntKind.u64.wrap (n : Int) = n := by rw [IntKind.wrap_u64]; omega
  have e3 : (n : Int) / 4294967296 = 0 := by omega
  have e4 : IntKind.u64.wrap 0 = 0 := by decide
  have e5 : bits .and .u64 0 4294967295 = 0 := by decide
  refine bodyPost_ret (v := Pr (.int .u64 0) (.int .u64 n)) ?_ rfl ⟨rfl, rfl⟩
  simp [results, Try.results100, go_sem, e1, e2, e3, e4, e5]
set_option maxHeartbeats 2000000 in
theorem mul_one' (n : Nat) (w : World) (hn : n ≤ 20) :
    Calls Try.prog 85 #[.int .u64 1, .int .u64 n] w fun e w' => e = .returned (Pr (.int .u64 0) (.int .u64 n)) ∧ w' = w := by
  have HN := Lib.hid hn
  clear hn
  go_enter Try.func85, Try.ntmps85
  go_wp2_with fail
  refine (mul64_one n w HN.out).mono ?_; rintro e w' ⟨rfl, rfl⟩
  go_wp2
  exact bodyPost_ret (v := Pr (.int .u64 0) (.int .u64 n)) (by simp [results, Try.results85, go_sem]) rfl ⟨rfl, rfl⟩
theorem zeros_rep (z : Value) (n : Nat) : zeros z n = (List.replicate n z).toArray := by
  apply Array.toList_inj.1; rw [zeros, toList_madeCells_one]
def fillL (n k : Nat) (x : Value) : List Value := List.replicate k x ++ List.replicate (n - k) (I 0)
theorem fill_len {n k : Nat} {x : Value} (h : k ≤ n) : (fillL n k x).length = n := by simp [fillL]; omega
theorem fill_zero (n : Nat) (x : Value) : fillL n 0 x = List.replicate n (I 0) := by simp [fillL]
theorem fill_all (n : Nat) (x : Value) : fillL n n x = List.replicate n x := by simp [fillL]
theorem fill_at {n k j : Nat} {x : Value} (h : j < k) : (fillL n k x)[j]? = some x := by
  unfold fillL; rw [List.getElem?_append_left (by simpa using h)]; simp [h]
theorem fill_splice {n k c : Nat} {x : Value} (h : k + c ≤ n) : splice (fillL n k x) k (List.replicate c x) = fillL n (k + c) x := by
  unfold splice fillL
  have e1 : (List.replicate k x ++ List.replicate (n - k) (I 0)).take k = List.replicate k x := by rw [List.take_left' (by simp)]
  have e2 : (List.replicate k x ++ List.replicate (n - k) (I 0)).drop (k + c) = List.replicate (n - (k + c)) (I 0) := by
    rw [List.drop_append, List.drop_eq_nil_of_le (by simp), List.nil_append, List.drop_replicate]; simp; try omega
  rw [List.length_replicate, e1, e2, ← List.append_assoc, List.replicate_append_replicate]
set_option maxRecDepth 100000 in
set_option maxHeartbeats 4000000 in
theorem repeat_any (b n : Nat) (x : Int) (w : World) (hc : w.cell? ⟨b, 0, none⟩ = some (I x)) (hn : n ≤ 20) :
    Calls Try.prog 53 #[.slice (some ⟨b, 0, none⟩) 1 1, I n] w fun e w' => ∃ v, e = .returned v ∧ w'.ownsRow w.heap.size 3 1 v n (List.replicate n (I x)) ∧ Ext w w' := by
  have hmk := fun Q => run_make1 (P := Try.prog) 23 3 tab_int' Try.underlying23 rfl n (by omega) (by omega) Q
  have hz : zeros (.int .i64 0) n = (List.replicate n (I 0)).toArray := zeros_rep _ _
  obtain ⟨Z, hZ⟩ : ∃ Z, Z = zeros (.int .i64 0) n := ⟨_, rfl⟩
  rw [← hZ] at hmk hz
  have e2 : IntKind.u64.wrap (n : Int) = n := by rw [IntKind.wrap_u64]; omega
  have e3 : IntKind.i64.wrap (n : Int) = n := IntWalk.i64_in _ (by omega)
  have hsz : (Try.prog.info? 3).map (·.size) = some 1 := by kernel_rfl
  obtain ⟨W, hW⟩ : ∃ W, W = w.alloc (.cells Z 3) := ⟨_, rfl⟩
  have hxW : Ext w W := by rw [hW]; exact (Ext.refl _).alloc _
  have hh : W.heap[w.heap.size]? = some (.cells (fillL n 0 (I x)).toArray 3 (0, 0)) := by rw [fill_zero, ← hz, hW]; exact heap_alloc_new w _
  have hcW := hxW.keeps _ _ hc
  have HH := Lib.hid hh; have HX := Lib.hid hxW; have HW := Lib.hid hW; have HC := Lib.hid hcW
  have HN := Lib.hid hn
  obtain ⟨C0, hC0⟩ : ∃ C0 : List Value, C0 = List.replicate (min 1 n) (I x) := ⟨_, rfl⟩
  have hC1 : Hid (C0.length = Nat.min 1 n) := by unfold Hid; rw [hC0]; simp
  have hC2 : Hid (∀ j v, C0[j]? = some v → W.cell? ((⟨b, 0, none⟩ : Addr).add j) = some v) := by
    intro j v hv
    rw [hC0, List.getElem?_replicate] at hv
    split at hv
    · have : j = 0 := by omega
      subst this
      injection hv with hv; subst hv
      rw [add_zero]; exact HC.out
    · cases hv
  have hC3 : Hid (∀ v ∈ C0, v.oneCell' = true) := by intro v hv; rw [hC0] at hv; rw [(List.mem_replicate.1 hv).2]; rfl
  have hC4 : Hid (splice (fillL n 0 (I x)) 0 C0 = fillL n (min 1 n) (I x)) := by unfold Hid; rw [hC0, fill_splice (by omega), Nat.zero_add]
  have hC5 : Hid (0 + C0.length ≤ (fillL n 0 (I x)).length) := by unfold Hid; rw [fill_len (by omega), hC0]; simp; omega
  have HC0 : Hid (C0.length = min 1 n) := hC1
  clear hC0 hh hxW hW hcW hz hZ hc
  go_enter Try.func53, Try.ntmps53
  go_wp2_with fail
  refine (mul_one' n w HN.out).mono ?_; rintro e w' ⟨rfl, rfl⟩
  go_upto_region 7 with fail
  rw [← HW.out]
  go_wp2_with (refine wpList_copy_splice rfl (.tmp 31) (.tmp 32) 23 23 rfl 3 Try.underlying23 hsz _ _ n n 1 1 rfl rfl w'.heap.size 0 (fillL n 0 (I x)) 3 HH.out C0 hC1.out (fun _ => ⟨rfl, _, rfl, hC2.out⟩) hC5.out hC3.out w'.heap.size w' HX.out (Nat.le_refl _) ?_; rw [hC4.out, HC0.out]; intro w2 HG2 hB2)
  have HB2 := Lib.hid hB2
  clear hB2 HH HW HX hC1 hC2 hC3 hC4 hC5 HC0 HC C0 hmk e2 e3
  go_loopw [8] (fun i wr => ∃ k : Nat, min 1 n ≤ k ∧ k ≤ n ∧ i = .int .i64 k ∧ Hid (wr.heap[w'.heap.size]? = some (.cells (fillL n k (I x)).toArray 3 (0, 0))) ∧ Ext w' wr) (fun i _ => n - (intOf i).toNat)
  case atStart => exact ⟨min 1 n, Nat.le_refl _, Nat.min_le_right _ _, rfl, HG2, HB2.out⟩
  case round =>
    obtain ⟨k, hk1, hk2, rfl, HG, hx⟩ := hrel
    by_cases hlt : k < n
    · obtain ⟨c, hc⟩ : ∃ c, c = min k (n - k) := ⟨_, rfl⟩
      have HX := Lib.hid hx
      obtain ⟨C, hC⟩ : ∃ C : List Value, C = List.replicate c (I x) := ⟨_, rfl⟩
      have hkp : 0 < k := by omega
      have HH : Hid (wr.heap[w'.heap.size]? = some (.cells (fillL n k (I x)).toArray 3 (0, 0))) := HG
      have hC1 : Hid (C.length = Nat.min k (n - k)) := by unfold Hid; rw [hC, List.length_replicate, hc]
      have hC2 : Hid (∀ j v, C[j]? = some v → wr.drew.cell? ((⟨w'.heap.size, 0, none⟩ : Addr).add j) = some v) := by
        intro j v hv
        rw [hC, List.getElem?_replicate] at hv
        split at hv
        · injection hv with hv; subst hv
          rw [add_zero]
          show wr.cell? _ = _
          rw [cell_of_row wr _ j _ _ _ HH.out, List.getElem?_toArray, fill_at (by omega)]
        · cases hv
      have hC3 : Hid (∀ v ∈ C, v.oneCell' = true) := by intro v hv; rw [hC] at hv; rw [(List.mem_replicate.1 hv).2]; rfl
      have hC4 : Hid (splice (fillL n k (I x)) k C = fillL n (k + c) (I x)) := by unfold Hid; rw [hC, fill_splice (by omega)]
      have hC5 : Hid (k + C.length ≤ (fillL n k (I x)).length) := by unfold Hid; rw [fill_len (by omega), hC]; simp; omega
      have HC0 : Hid (C.length = c) := by unfold Hid; rw [hC]; simp
      have hc1 : 0 < c ∧ k + c ≤ n := by omega
      have hkc : IntKind.i64.wrap ((k : Int) + (c : Int)) = (k : Int) + (c : Int) := IntWalk.i64_in _ (by omega)
      clear hC hc HG hx
      go_wp2_with fail
      go_region_law (refine step_copy_splice (by exact rfl) (.tmp 41) (.tmp 44) 23 23 (by exact rfl) 3 Try.underlying23 hsz (if n = k then some ⟨w'.heap.size, 0, none⟩ else some ⟨w'.heap.size, k, none⟩) (some ⟨w'.heap.size, 0, none⟩) (n - k) (n - k) k n (by go_simp) (by go_simp) w'.heap.size k (fillL n k (I x)) 3 HH.out C hC1.out (fun _ => ⟨if_neg (by omega), _, rfl, hC2.out⟩) hC5.out hC3.out w'.heap.size w' HX.out.drew (Nat.le_refl _) ?_; rw [hC4.out, HC0.out]; intro w2 HG2 hB2)
      have HB2 := Lib.hid hB2
      clear hB2 HH HX hC1 hC2 hC3 hC4 hC5 HC0
      go_wp2
      go_roundw
      case rel => exact ⟨k + c, by omega, by omega, by rw [Int.natCast_add], HG2, HB2.out⟩
      case measure => simp only [intOf]; omega
    · obtain rfl : k = n := by omega
      have HX := Lib.hid hx; clear hx
      go_wp2
      go_ret
      refine ⟨_, rfl, ⟨by simp, .inr ⟨_, k, _, rfl, Nat.le_refl _, HG.out, Nat.le_refl _, by unfold maxLen; omega, by simp [fill_len], ?_⟩⟩, HX.out⟩
      rw [fill_all]; simp
end Go.Proofs.Ytlafiddfplhafaa
/- Sweeping, in plain Lean: folded and dropped nets. No Go in sight. -/
namespace Go.Proofs.Ytlafiddfplhafaa
set_option linter.unusedVariables false
set_option linter.unusedSimpArgs false
/-! Fold -/
def foldG (g : GateM) (x : Int) : GateM := if x = 0 then ⟨0, 0, []⟩ else if x = 1 then ⟨1, 0, []⟩ else g
def foldGs : List GateM → List Int → List GateM
  | g :: gs, x :: v => foldG g x :: foldGs gs v
  | gs, [] => gs
  | [], _ => []
def foldV (N : NetM) : List Int := settledM N.gates (opensM N.regs.length) (opensM N.ins.toNat)
def foldN (N : NetM) : NetM := { N with gates := foldGs N.gates (foldV N) }
theorem foldGs_at : ∀ (gs : List GateM) (v : List Int) (k : Nat) (g : GateM), gs.length = v.length → gs[k]? = some g → (foldGs gs v)[k]? = some (foldG g (valI v k))
  | [], v, k, g, _, h => by simp at h
  | g :: gs, [], k, x, h, _ => by simp at h
  | g :: gs, y :: v, 0, x, _, h => by simp at h; subst h; simp [foldGs, valI]
  | g :: gs, y :: v, k + 1, x, hl, h => by
    have := foldGs_at gs v k x (by simpa using hl) (by simpa using h)
    simp only [foldGs, List.getElem?_cons_succ, this]
    simp [valI]
theorem foldGs_len : ∀ (gs : List GateM) (v : List Int), gs.length = v.length → (foldGs gs v).length = gs.length
  | [], [], _ => rfl
  | [], y :: v, h => by simp at h
  | g :: gs, [], h => by simp at h
  | g :: gs, y :: v, h => by simp [foldGs, foldGs_len gs v (by simpa using h)]
theorem worth_fold {regs ins u : List Int} {g : GateM} {x : Int} (hx : x = 0 ∨ x = 1 ∨ x = 2) : worthM regs ins u (foldG g x) = if x = 2 then worthM regs ins u g else x := by
  rcases hx with rfl | rfl | rfl <;> rfl
theorem leqM_opens' {n : Nat} {v : List Int} (h : v.length = n) : leqM (opensM n) v = true := by subst h; exact leqM_opens v
/-- Folded, each gate is settled as it was. -/
theorem fold_settled {gs : List GateM} {regs ins : List Int} {a b : Nat} (hr : regs.length = a) (hi : ins.length = b) :
    settledM (foldGs gs (settledM gs (opensM a) (opensM b))) regs ins = settledM gs regs ins := by
  generalize hv0 : settledM gs (opensM a) (opensM b) = v0
  have L0 : LeastV gs (opensM a) (opensM b) v0 := by rw [← hv0]; exact settled_least _ _ _
  have g0 : goodL v0 := by rw [← hv0]; exact settled_good (opens_good _) (opens_good _)
  have hl : gs.length = v0.length := L0.len.symm
  have hfl := foldGs_len gs v0 hl
  have Lx := settled_least gs regs ins
  have Ly := settled_least (foldGs gs v0) regs ins
  generalize hx : settledM gs regs ins = x at *
  generalize hy : settledM (foldGs gs v0) regs ins = y at *
  have v0x : leqM v0 x = true := by
    rw [← hv0, ← hx]; exact settled_mono (by simp [opensM, hr]) (by simp [opensM, hi]) (leqM_opens' hr) (leqM_opens' hi)
  have ylen : y.length = gs.length := by rw [Ly.len, hfl]
  have fnext : ∀ (u : List Int) (k : Nat), k < gs.length → valI (nextV (foldGs gs v0) regs ins u) k = if valI v0 k = 2 then valI (nextV gs regs ins u) k else valI v0 k := fun u k hk => by
    have e := foldGs_at gs v0 k _ hl (List.getElem?_eq_getElem hk)
    rw [next_val e, next_val (List.getElem?_eq_getElem hk), worth_fold (valI_good g0 k)]
  -- x solves the folded net
  have fx : nextV (foldGs gs v0) regs ins x = x := val_ext (by rw [next_len, hfl, Lx.len]) fun k hk => by
    rw [next_len, hfl] at hk
    rw [fnext x k hk]
    split
    · rw [Lx.fix]
    · rename_i h
      rcases leqM_val (by rw [L0.len, Lx.len]) v0x k with e | e
      · exact absurd e h
      · exact e
  have yx := Ly.least x (by rw [Lx.len, hfl]) fx
  have v0y : leqM v0 y = true := leqM_of_val (by rw [L0.len, ylen]) fun k hk => by
    rw [L0.len] at hk
    by_cases h : valI v0 k = 2
    · exact .inl h
    · right
      have := fnext y k hk
      rw [Ly.fix, if_neg h] at this; exact this.symm
  have fy : nextV gs regs ins y = y := val_ext (by rw [next_len, ylen]) fun k hk => by
    rw [next_len] at hk
    have := fnext y k hk
    rw [Ly.fix] at this
    by_cases h : valI v0 k = 2
    · rw [if_pos h] at this; exact this.symm
    · rw [if_neg h] at this
      rw [this]
      have hm := next_mono (gs := gs) (regs := opensM a) (regs' := regs) (ins := opensM b) (ins' := ins) (by simp [opensM, hr]) (by simp [opensM, hi]) (by rw [L0.len, ylen]) (leqM_opens' hr) (leqM_opens' hi) v0y
      rw [L0.fix] at hm
      rcases leqM_val (by rw [L0.len, next_len]) hm k with e | e
      · exact absurd e h
      · exact e.symm
  exact leqM_anti (by rw [ylen, Lx.len]) yx (Lx.least y ylen fy)
theorem foldV_len (N : NetM) : (foldV N).length = N.gates.length := settled_len _ _ _
theorem foldN_len (N : NetM) : (foldN N).gates.length = N.gates.length := foldGs_len _ _ (foldV_len N).symm
theorem foldN_settled {N : NetM} {regs ins : List Int} (hr : regs.length = N.regs.length) (hi : ins.length = N.ins.toNat) : settledM (foldN N).gates regs ins = settledM N.gates regs ins := fold_settled hr hi
theorem foldV_good (N : NetM) : goodL (foldV N) := settled_good (opens_good _) (opens_good _)
theorem mem_foldGs : ∀ {gs : List GateM} {v : List Int} {x : GateM}, x ∈ foldGs gs v → x ∈ gs ∨ x = ⟨0, 0, []⟩ ∨ x = ⟨1, 0, []⟩
  | [], [], x, h => .inl h
  | [], _ :: _, x, h => by simp [foldGs] at h
  | g :: gs, [], x, h => .inl h
  | g :: gs, y :: v, x, h => by
    simp only [foldGs, List.mem_cons] at h
    rcases h with h | h
    · unfold foldG at h
      split at h
      · exact .inr (.inl h)
      split at h
      · exact .inr (.inr h)
      · exact .inl (by simp [h])
    · rcases mem_foldGs h with e | e
      · exact .inl (by simp [e])
      · exact .inr e
theorem foldN_ok {N : NetM} (h : NetOK N) : NetOK (foldN N) := by
  have hl := foldN_len N
  have each : ∀ g ∈ (foldN N).gates, g ∈ N.gates ∨ g = ⟨0, 0, []⟩ ∨ g = ⟨1, 0, []⟩ := fun g hg => mem_foldGs hg
  refine ⟨h.ins0, h.ins3, by rw [hl]; exact h.gl, h.rl, h.ol, fun g hg => ?_, fun k hk => ?_, fun g hg => ?_, fun g hg => ?_⟩
  · rcases each g hg with e | rfl | rfl
    · exact h.al g e
    · simp
    · simp
  · rw [hl]
    refine h.named k ?_
    unfold namedM at hk ⊢
    simp only [List.mem_append] at hk ⊢
    rcases hk with e | e
    · exact .inl e
    · obtain ⟨g, hg, ha⟩ := List.mem_flatMap.1 e
      rcases each g hg with e | rfl | rfl
      · exact .inr (List.mem_flatMap.2 ⟨g, e, ha⟩)
      · simp at ha
      · simp at ha
  · rcases each g hg with e | rfl | rfl
    · exact h.kinds g e
    · simp
    · simp
  · rcases each g hg with e | rfl | rfl
    · exact h.form g e
    · simp [formM]
    · simp [formM]
theorem foldN_turn {N : NetM} {regs ins : List Int} (hr : regs.length = N.regs.length) (hi : ins.length = N.ins.toNat) : turnN (foldN N) regs ins = turnN N regs ins := by
  unfold turnN
  rw [foldN_settled hr hi]; rfl
/-! Drop -/
def isM (N : NetM) : List Bool := needsM N.gates (N.outs ++ nextsM N)
def keptFrom : List Bool → Int → List Int
  | [], _ => []
  | b :: l, k => if b then k :: keptFrom l (k + 1) else -1 :: keptFrom l k
def toM (N : NetM) : List Int := keptFrom (isM N) 0
def renG (tl : List Int) (g : GateM) : GateM := ⟨g.kind, g.num, g.args.map (valI tl)⟩
def keepGs (f : GateM → GateM) : List GateM → List Bool → List GateM
  | g :: gs, b :: l => if b then f g :: keepGs f gs l else keepGs f gs l
  | _, _ => []
def dropN (N : NetM) : NetM := ⟨N.ins, keepGs (renG (toM N)) N.gates (isM N), N.regs.map fun r => ⟨r.fst, valI (toM N) r.next⟩, N.outs.map (valI (toM N))⟩
theorem keptFrom_at : ∀ (l : List Bool) (k : Int) (j : Nat) (b : Bool), l[j]? = some b → (keptFrom l k)[j]? = some (if b then k + (cnt (l.take j) : Nat) else -1)
  | [], _, j, b, h => by simp at h
  | c :: l, k, 0, b, h => by simp at h; subst h; cases c <;> simp [keptFrom, cnt]
  | c :: l, k, j + 1, b, h => by
    have h' : l[j]? = some b := by simpa using h
    cases c with
    | true =>
      simp only [keptFrom, if_true, List.getElem?_cons_succ, keptFrom_at l (k + 1) j b h', List.take_succ_cons, cnt, List.countP_cons]
      cases b <;> simp; omega
    | false =>
      simp only [keptFrom, Bool.false_eq_true, if_false, List.getElem?_cons_succ, keptFrom_at l k j b h', List.take_succ_cons, cnt, List.countP_cons]
      cases b <;> simp
theorem keepGs_len (f : GateM → GateM) : ∀ (gs : List GateM) (l : List Bool), gs.length = l.length → (keepGs f gs l).length = cnt l
  | [], [], _ => rfl
  | [], _ :: _, h => by simp at h
  | _ :: _, [], h => by simp at h
  | g :: gs, b :: l, h => by
    have ih := keepGs_len f gs l (by simpa using h)
    cases b <;> simp [keepGs, cnt, ih] at *
theorem keepGs_at (f : GateM → GateM) : ∀ (gs : List GateM) (l : List Bool) (j : Nat) (g : GateM), gs[j]? = some g → l[j]? = some true → (keepGs f gs l)[cnt (l.take j)]? = some (f g)
  | [], _, j, g, h, _ => by simp at h
  | _ :: _, [], j, g, _, h => by simp at h
  | x :: gs, b :: l, 0, g, h, hl => by simp at h hl; subst h; subst hl; simp [keepGs, cnt]
  | x :: gs, b :: l, j + 1, g, h, hl => by
    have ih := keepGs_at f gs l j g (by simpa using h) (by simpa using hl)
    cases b <;> simp [keepGs, cnt] at * <;> exact ih
theorem cnt_take_lt {l : List Bool} {j : Nat} (h : l[j]? = some true) : cnt (l.take j) < cnt l := by
  have hj := (List.getElem?_eq_some_iff.1 h).1
  have e : cnt l = cnt (l.take j) + cnt (l.drop j) := by unfold cnt; rw [← List.countP_append, List.take_append_drop]
  have : l.drop j = true :: l.drop (j + 1) := by rw [List.drop_eq_getElem_cons hj]; congr 1; rw [List.getElem?_eq_getElem hj] at h; injection h
  rw [this] at e; simp [cnt] at e ⊢; omega
theorem cnt_take_surj : ∀ (l : List Bool) (i : Nat), i < cnt l → ∃ j, l[j]? = some true ∧ cnt (l.take j) = i
  | [], i, h => by simp [cnt] at h
  | b :: l, i, h => by
    cases b with
    | true =>
      cases i with
      | zero => exact ⟨0, by simp, by simp [cnt]⟩
      | succ i =>
        obtain ⟨j, h1, h2⟩ := cnt_take_surj l i (by simp [cnt] at h ⊢; omega)
        exact ⟨j + 1, by simpa using h1, by simp [cnt] at h2 ⊢; exact h2⟩
    | false =>
      obtain ⟨j, h1, h2⟩ := cnt_take_surj l i (by simpa [cnt] using h)
      exact ⟨j + 1, by simpa using h1, by simp [cnt] at h2 ⊢; exact h2⟩
theorem on_at {o : List Bool} {k : Int} (h : onI o k = true) : o[k.toNat]? = some true := by
  have := onI_lt h
  unfold onI at h; rw [List.getElem?_eq_getElem this] at h ⊢; simpa using h
theorem to_at {N : NetM} {k : Int} (h : onI (isM N) k = true) : valI (toM N) k = (cnt ((isM N).take k.toNat) : Nat) := by
  unfold valI toM
  rw [keptFrom_at _ _ _ _ (on_at h)]; simp
theorem is_len (N : NetM) : (isM N).length = N.gates.length := needsM_len _ _
theorem wanted_in {N : NetM} (h : NetOK N) : inR N.gates.length (N.outs ++ nextsM N) := fun k hk => by
  rcases List.mem_append.1 hk with e | e
  · exact h.outs k e
  · exact h.nexts k e
theorem is_least {N : NetM} (h : NetOK N) : Least N.gates (N.outs ++ nextsM N) (isM N) := needsM_least h.args (wanted_in h)
theorem drop_at {N : NetM} {k : Nat} {g : GateM} (hg : N.gates[k]? = some g) (hk : onI (isM N) k = true) : (dropN N).gates[cnt ((isM N).take k)]? = some (renG (toM N) g) :=
  keepGs_at _ _ _ _ _ hg (by have := on_at hk; simpa using this)
theorem drop_len (N : NetM) : (dropN N).gates.length = cnt (isM N) := keepGs_len _ _ _ (is_len N).symm
theorem drop_from {N : NetM} {i : Nat} {x : GateM} (h : (dropN N).gates[i]? = some x) : ∃ (k : Nat) (g : GateM), N.gates[k]? = some g ∧ onI (isM N) k = true ∧ cnt ((isM N).take k) = i ∧ x = renG (toM N) g := by
  have hi := (List.getElem?_eq_some_iff.1 h).1
  rw [drop_len] at hi
  obtain ⟨k, h1, h2⟩ := cnt_take_surj _ _ hi
  have hk := (List.getElem?_eq_some_iff.1 h1).1
  rw [is_len] at hk
  have hon : onI (isM N) k = true := by simp [onI, h1]
  have := drop_at (List.getElem?_eq_getElem hk) hon
  rw [h2, h] at this
  injection this with this
  exact ⟨k, _, List.getElem?_eq_getElem hk, hon, h2, this⟩
theorem worth_ren {regs ins v w : List Int} {tl : List Int} {g : GateM} (h : ∀ a ∈ g.args, leI (valI v a) (valI w (valI tl a))) : leI (worthM regs ins v g) (worthM regs ins w (renG tl g)) := by
  unfold worthM renG
  simp only
  split
  · exact leI.refl _
  split
  · exact leI.refl _
  split
  · exact leI.refl _
  split
  · exact leI.refl _
  have hm : leqM (g.args.map (valI v)) ((g.args.map (valI tl)).map (valI w)) = true := by
    generalize g.args = l at h
    induction l with
    | nil => rfl
    | cons a l ih =>
      simp only [List.map_cons, leqM, Bool.and_eq_true, Bool.or_eq_true, decide_eq_true_eq]
      exact ⟨h a (by simp), ih (fun b hb => h b (by simp [hb]))⟩
  by_cases k4 : g.kind = 4
  · exact leq_of _ (.inl k4) _ _ (by simp) hm
  by_cases k5 : g.kind = 5
  · exact leq_of _ (.inr k5) _ _ (by simp) hm
  simp only [ofM, if_neg k4, if_neg k5]
  cases hg : g.args with
  | nil => exact leI.refl _
  | cons a l =>
    simp only [List.map_cons, List.headD_cons]
    rcases h a (by rw [hg]; simp) with e | e
    · left; rw [e]; rfl
    · right; rw [e]
theorem worth_ren' {regs ins v w : List Int} {tl : List Int} {g : GateM} (h : ∀ a ∈ g.args, leI (valI w (valI tl a)) (valI v a)) : leI (worthM regs ins w (renG tl g)) (worthM regs ins v g) := by
  unfold worthM renG
  simp only
  split
  · exact leI.refl _
  split
  · exact leI.refl _
  split
  · exact leI.refl _
  split
  · exact leI.refl _
  have hm : leqM ((g.args.map (valI tl)).map (valI w)) (g.args.map (valI v)) = true := by
    generalize g.args = l at h
    induction l with
    | nil => rfl
    | cons a l ih =>
      simp only [List.map_cons, leqM, Bool.and_eq_true, Bool.or_eq_true, decide_eq_true_eq]
      exact ⟨h a (by simp), ih (fun b hb => h b (by simp [hb]))⟩
  by_cases k4 : g.kind = 4
  · exact leq_of _ (.inl k4) _ _ (by simp) hm
  by_cases k5 : g.kind = 5
  · exact leq_of _ (.inr k5) _ _ (by simp) hm
  simp only [ofM, if_neg k4, if_neg k5]
  cases hg : g.args with
  | nil => exact leI.refl _
  | cons a l =>
    simp only [List.map_cons, List.headD_cons]
    rcases h a (by rw [hg]; simp) with e | e
    · left; rw [e]; rfl
    · right; rw [e]
theorem kept_args {N : NetM} (h : NetOK N) {k : Nat} {g : GateM} (hg : N.gates[k]? = some g) (hk : onI (isM N) k = true) : ∀ a ∈ g.args, onI (isM N) a = true := fun a ha =>
  (is_least h).closed k (by omega) hk a (by simp [argsI, hg, ha])
/-- What stays is settled as it was. -/
theorem drop_settled {N : NetM} (h : NetOK N) (regs ins : List Int) {k : Nat} (hk : onI (isM N) k = true) : valI (settledM (dropN N).gates regs ins) (cnt ((isM N).take k) : Nat) = valI (settledM N.gates regs ins) k := by
  have Lx := settled_least N.gates regs ins
  have Ly := settled_least (dropN N).gates regs ins
  generalize hx : settledM N.gates regs ins = x at *
  generalize hy : settledM (dropN N).gates regs ins = y at *
  have kl : ∀ k : Nat, onI (isM N) k = true → k < N.gates.length := fun k hk => by have := onI_lt hk; rw [is_len] at this; simpa using this
  have up : ∀ (n : Nat) (v : List Int), (∀ k : Nat, onI (isM N) k = true → leI (valI v k) (valI y (cnt ((isM N).take k) : Nat))) → ∀ k : Nat, onI (isM N) k = true → leI (valI (itV N.gates regs ins n v) k) (valI y (cnt ((isM N).take k) : Nat)) := by
    intro n
    induction n with
    | zero => intro v hv; exact hv
    | succ n ih =>
      intro v hv
      refine ih _ fun k hk => ?_
      have hg := List.getElem?_eq_getElem (kl k hk)
      rw [next_val hg]
      have hd := drop_at hg hk
      have e := next_val (regs := regs) (ins := ins) (v := y) hd
      rw [Ly.fix] at e
      rw [e]
      refine worth_ren fun a ha => ?_
      have ho := kept_args h hg hk a ha
      have ha0 := (h.args _ (List.mem_of_getElem? hg) a ha).1
      rw [to_at ho]
      have := hv a.toNat (by rw [show ((a.toNat : Nat) : Int) = a from by omega]; exact ho)
      rwa [show ((a.toNat : Nat) : Int) = a from by omega] at this
  have down : ∀ (n : Nat) (w : List Int), (∀ k : Nat, onI (isM N) k = true → leI (valI w (cnt ((isM N).take k) : Nat)) (valI x k)) → ∀ k : Nat, onI (isM N) k = true → leI (valI (itV (dropN N).gates regs ins n w) (cnt ((isM N).take k) : Nat)) (valI x k) := by
    intro n
    induction n with
    | zero => intro v hv; exact hv
    | succ n ih =>
      intro w hv
      refine ih _ fun k hk => ?_
      have hg := List.getElem?_eq_getElem (kl k hk)
      have hd := drop_at hg hk
      rw [next_val hd]
      have e := next_val (regs := regs) (ins := ins) (v := x) hg
      rw [Lx.fix] at e
      rw [e]
      refine worth_ren' fun a ha => ?_
      have ho := kept_args h hg hk a ha
      have ha0 := (h.args _ (List.mem_of_getElem? hg) a ha).1
      rw [to_at ho]
      have := hv a.toNat (by rw [show ((a.toNat : Nat) : Int) = a from by omega]; exact ho)
      rwa [show ((a.toNat : Nat) : Int) = a from by omega] at this
  have h1 := up N.gates.length (opensM N.gates.length) (fun k hk => .inl (by simp [valI, opensM, kl k hk])) k hk
  have h2 := down (dropN N).gates.length (opensM (dropN N).gates.length) (fun k hk => .inl (by
    have h3 := cnt_take_lt (on_at hk)
    rw [Int.toNat_natCast] at h3
    simp [valI, opensM, drop_len, h3])) k hk
  have e1 : itV N.gates regs ins N.gates.length (opensM N.gates.length) = x := hx
  have e2 : itV (dropN N).gates regs ins (dropN N).gates.length (opensM (dropN N).gates.length) = y := hy
  rw [e1] at h1; rw [e2] at h2
  exact h2.anti h1
theorem want_on {N : NetM} (h : NetOK N) {a : Int} (ha : a ∈ N.outs ++ nextsM N) : onI (isM N) a = true := (is_least h).all a ha
theorem drop_pick {N : NetM} (h : NetOK N) (regs ins : List Int) {l : List Int} (hl : ∀ a ∈ l, a ∈ N.outs ++ nextsM N) :
    pickM (settledM (dropN N).gates regs ins) (l.map (valI (toM N))) = pickM (settledM N.gates regs ins) l := by
  unfold pickM
  rw [List.map_map]
  refine List.map_congr_left fun a ha => ?_
  have ho := want_on h (hl a ha)
  have h0 := (wanted_in h a (hl a ha)).1
  simp only [Function.comp]
  rw [to_at ho]
  have := drop_settled h regs ins (k := a.toNat) (by rw [show ((a.toNat : Nat) : Int) = a from by omega]; exact ho)
  rwa [show ((a.toNat : Nat) : Int) = a from by omega] at this
theorem drop_turn {N : NetM} (h : NetOK N) {regs ins : List Int} {o : List Int × List Int} (ht : turnN N regs ins = some o) : turnN (dropN N) regs ins = some o := by
  unfold turnN at ht ⊢
  split at ht
  · cases ht
  · rename_i hc
    have hc : (2 : Int) ∉ settledM N.gates regs ins := by simpa using hc
    have hno : (2 : Int) ∉ settledM (dropN N).gates regs ins := fun hm => by
      obtain ⟨i, hi⟩ := List.mem_iff_getElem?.1 hm
      have hil := (List.getElem?_eq_some_iff.1 hi).1
      rw [settled_len] at hil
      obtain ⟨k, g, hg, hk, hki, _⟩ := drop_from (List.getElem?_eq_getElem hil)
      have := drop_settled h regs ins hk
      rw [hki] at this
      have e : valI (settledM (dropN N).gates regs ins) (i : Nat) = 2 := by simp [valI, hi]
      rw [e] at this
      exact val_shut hc k this.symm
    rw [if_neg (by simpa using hno), ← ht]
    have e1 := drop_pick h regs ins (l := N.outs) (fun a ha => by simp [ha])
    have e2 := drop_pick h regs ins (l := nextsM N) (fun a ha => by simp [ha])
    have e3 : nextsM (dropN N) = (nextsM N).map (valI (toM N)) := by simp [nextsM, dropN]
    rw [e3, e2, ← e1]; rfl
theorem drop_first (N : NetM) : firstM (dropN N) = firstM N := by simp [firstM, dropN]
theorem to_range {N : NetM} {a : Int} (ho : onI (isM N) a = true) : 0 ≤ valI (toM N) a ∧ valI (toM N) a < (dropN N).gates.length := by
  rw [to_at ho, drop_len]
  have := cnt_take_lt (on_at ho)
  omega
theorem dropN_ok {N : NetM} (h : NetOK N) : NetOK (dropN N) := by
  have hle : (dropN N).gates.length ≤ N.gates.length := by rw [drop_len, ← is_len]; exact cnt_max _
  have each : ∀ x ∈ (dropN N).gates, ∃ (k : Nat) (g : GateM), N.gates[k]? = some g ∧ onI (isM N) k = true ∧ x = renG (toM N) g := fun x hx => by
    obtain ⟨i, hi⟩ := List.mem_iff_getElem?.1 hx
    obtain ⟨k, g, h1, h2, _, h3⟩ := drop_from hi
    exact ⟨k, g, h1, h2, h3⟩
  refine ⟨h.ins0, h.ins3, by have := h.gl; omega, by simp only [dropN, List.length_map]; exact h.rl, by simp only [dropN, List.length_map]; exact h.ol, fun x hx => ?_, fun k hk => ?_, fun x hx => ?_, fun x hx => ?_⟩
  · obtain ⟨k, g, h1, _, rfl⟩ := each x hx
    have := h.al g (List.mem_of_getElem? h1); simpa [renG] using this
  · unfold namedM at hk
    simp only [List.mem_append] at hk
    rcases hk with (e | e) | e
    · obtain ⟨a, ha, rfl⟩ := List.mem_map.1 (show k ∈ N.outs.map (valI (toM N)) from e)
      exact to_range (want_on h (by simp [ha]))
    · simp only [dropN, List.map_map, List.mem_map, Function.comp] at e
      obtain ⟨r, hr, rfl⟩ := e
      exact to_range (want_on h (by simp only [nextsM, List.mem_append, List.mem_map]; exact .inr ⟨r, hr, rfl⟩))
    · obtain ⟨x, hx, hk⟩ := List.mem_flatMap.1 e
      obtain ⟨j, g, h1, h2, rfl⟩ := each x hx
      obtain ⟨a, ha, rfl⟩ := List.mem_map.1 (show k ∈ g.args.map (valI (toM N)) from hk)
      exact to_range (kept_args h h1 h2 a ha)
  · obtain ⟨k, g, h1, _, rfl⟩ := each x hx
    exact h.kinds g (List.mem_of_getElem? h1)
  · obtain ⟨k, g, h1, _, rfl⟩ := each x hx
    have := h.form g (List.mem_of_getElem? h1)
    have e : (renG (toM N) g).args.length = g.args.length := by simp [renG]
    have e2 : (dropN N).regs.length = N.regs.length := by simp [dropN]
    unfold formM at this ⊢
    rw [e, e2]; exact this
/-! runs -/
theorem sweep_run {N : NetM} (h : NetOK N) : ∀ (l r : List Int) (q : List (List Int) × List Int), r.length = N.regs.length → runFrom N r l = some q → runFrom (dropN (foldN N)) r l = some q
  | [], r, q, _, hr => by simpa [runFrom] using hr
  | x :: l, r, q, hl, hr => by
    simp only [runFrom, Option.bind_eq_some_iff, Option.map_eq_some_iff] at hr ⊢
    obtain ⟨o, h1, q', h2, rfl⟩ := hr
    have hf := foldN_turn (N := N) (regs := r) (ins := bitsM x N.ins.toNat) hl (bits_len _ _)
    have ht : turnN (dropN (foldN N)) r (bitsM x N.ins.toNat) = some o := drop_turn (foldN_ok h) (by rw [hf]; exact h1)
    exact ⟨o, ht, q', sweep_run h l o.2 q' (turnN_len h1).2 h2, rfl⟩
theorem foldN_first (N : NetM) : firstM (foldN N) = firstM N := rfl
end Go.Proofs.Ytlafiddfplhafaa
/- Gates of the call's own: a row of gates, each with a row of args of its own. -/
namespace Go.Proofs.Ytlafiddfplhafaa
set_option linter.unusedVariables false
set_option linter.unusedSimpArgs false
open Go.RowKit
set_option maxHeartbeats 1000000 in
theorem fold1_any (n : Nat) (w : World) (hn : n ≤ 20) :
    Calls Try.prog 52 #[I n] w fun e w' => ∃ v, e = .returned v ∧ w'.ownsRow w.heap.size 3 1 v n ((opensM n).map I) ∧ Ext w w' := by
  obtain ⟨W, hW⟩ : ∃ W, W = w.alloc (.cells #[I 2] 3) := ⟨_, rfl⟩
  have hxW : Ext w W := by rw [hW]; exact (Ext.refl _).alloc _
  have hc : W.cell? ⟨w.heap.size, 0, none⟩ = some (I 2) := by rw [hW, World.cell?_alloc_new]; rfl
  have HW := Lib.hid hW; have HC := Lib.hid hc; have HN := Lib.hid hn
  have he : Hid (List.replicate n (I 2) = (opensM n).map I) := by unfold Hid; simp [opensM]
  clear hW hc hn
  go_enter Try.func52, Try.ntmps52
  go_wp2_with fail
  rw [← HW.out]
  refine (repeat_any w.heap.size n 2 W HC.out HN.out).mono ?_; rintro e w1 ⟨v, rfl, hown, x1⟩
  rw [he.out] at hown
  have HO := Lib.hid hown; have X1 := Lib.hid x1; clear hown x1
  go_wp2
  go_ret
  exact ⟨_, rfl, own_base HO.out hxW.size, hxW.trans X1.out⟩
set_option maxHeartbeats 1000000 in
theorem own_any (kd nm : Int) (A : Option Addr) (n c : Nat) (xs : List Int) (w : World) (h : Sl w A n (xs.map I)) (hn : n ≤ 1000000) :
    Calls Try.prog 56 #[gateV kd nm A n c] w fun e w' => ∃ A' c', e = .returned (gateV kd nm A' n c') ∧ w'.ownsRow w.heap.size 3 1 (.slice A' n c') n (xs.map I) ∧ Ext w w' := by
  obtain ⟨W1, hW1⟩ : ∃ W, W = w.alloc (.cells #[I kd, I nm, .slice A n c] 95) := ⟨_, rfl⟩
  obtain ⟨z, hz⟩ : ∃ z : List Value, z = [I 0, I 0, .slice none 0 0] := ⟨_, rfl⟩
  obtain ⟨W2, hW2⟩ : ∃ W, W = W1.alloc (.cells #[I 0, I 0, .slice none 0 0] 95) := ⟨_, rfl⟩
  have hx1 : Ext w W1 := by rw [hW1]; exact (Ext.refl _).alloc _
  have hx2 : Ext W1 W2 := by rw [hW2]; exact (Ext.refl _).alloc _
  have hb1 : Box W2 w.heap.size 95 [I kd, I nm, .slice A n c] := Box.ext (by rw [hW1]; exact Box.new w _ _) hx2
  have hs1 : W1.heap.size = w.heap.size + 1 := by rw [hW1]; simp
  have hb2 : Box W2 (w.heap.size + 1) 95 [I 0, I 0, .slice none 0 0] := by rw [← hs1, hW2]; exact Box.new W1 _ _
  have hs2 : W2.heap.size = w.heap.size + 2 := by rw [hW2]; simp [hs1]
  have HS := Lib.hid (h.keep (hx1.trans hx2).keeps)
  have HB1 := Lib.hid hb1; have HB2 := Lib.hid hb2; have HX := Lib.hid (hx1.trans hx2)
  have HW2 : Hid (W2 = (w.alloc (.cells #[I kd, I nm, .slice A n c] 95)).alloc (.cells #[I 0, I 0, .slice none 0 0] 95)) := by unfold Hid; rw [hW2, hW1]
  have HN := Lib.hid hn
  have hc2 := (hb1.cell 2).trans rfl
  clear h hW1 hW2 hz z hx1 hx2 hb1 hb2 hs1 hn
  go_enter Try.func56, Try.ntmps56
  go_wp2_with fail
  rw [← HW2.out]
  clear hc2
  refine (cloneInts_any A n c xs W2 HS.out (by have := HN.out; omega)).mono ?_; rintro e w3 ⟨v, rfl, hown, x3⟩
  obtain ⟨A', c', rfl, -, -, -⟩ := own_sl hown
  have k0 := ((HB1.out.ext x3).cell 0).trans rfl; have k1 := ((HB1.out.ext x3).cell 1).trans rfl; have k2 := ((HB1.out.ext x3).cell 2).trans rfl
  have m0 := ((HB2.out.ext x3).cell 0).trans rfl; have m1 := ((HB2.out.ext x3).cell 1).trans rfl; have m2 := ((HB2.out.ext x3).cell 2).trans rfl
  have f1 := (HB1.out.ext x3).free; have f2 := (HB2.out.ext x3).free
  simp only [List.getElem?_cons_zero, List.getElem?_cons_succ] at k0 k1 k2 m0 m1 m2
  have a1 := (HB1.out.ext x3).apart hown (by decide); have a2 := (HB2.out.ext x3).apart hown (by decide)
  have hfin := own_set (own_set (own_set (own_set hown a1 2 (.slice A' n c')) a2 0 (I kd)) a2 1 (I nm)) a2 2 (.slice A' n c')
  have hxf := (((((HX.out.trans x3).setCell (p := ⟨w.heap.size, 2, none⟩) (Nat.le_refl _) (.slice A' n c')).setCell (p := ⟨w.heap.size + 1, 0, none⟩) (Nat.le_succ _) (I kd)).setCell (p := ⟨w.heap.size + 1, 1, none⟩) (Nat.le_succ _) (I nm)).setCell (p := ⟨w.heap.size + 1, 2, none⟩) (Nat.le_succ _) (.slice A' n c'))
  have bx2 := ((((HB2.out.ext x3).kept (grownBy_set w3 w.heap.size 2 (.slice A' n c')) (by simp)).set 0 (I kd)).set 1 (I nm)).set 2 (.slice A' n c')
  have r0 := Lib.hid ((bx2.cell 0).trans rfl); have r1 := Lib.hid ((bx2.cell 1).trans rfl); have r2 := Lib.hid ((bx2.cell 2).trans rfl)
  have HF := Lib.hid (own_base hfin HX.out.size); have HXF := Lib.hid hxf
  clear hown x3 HB1 HB2 HS a1 a2 hfin hxf bx2
  go_wp2
  refine bodyPost_ret (v := gateV kd nm A' n c') ?_ rfl ⟨A', c', rfl, HF.out, HXF.out⟩
  have q0 := r0.out; have q1 := r1.out; have q2 := r2.out
  clear HF HXF r0 r1 r2 k0 k1 k2 m0 m1 m2
  simp only [List.set_cons_zero, List.set_cons_succ, List.getElem?_cons_zero, List.getElem?_cons_succ] at q0 q1 q2
  generalize (((w3.setCell _ _).setCell _ _).setCell _ _).setCell _ _ = WF at *
  simp [results, Try.results56, go_sem, q0, q1, q2]
def gateCs : List GateM → List Value → List Value
  | g :: gs, v :: vs => I g.kind :: I g.num :: v :: gateCs gs vs
  | _, _ => []
theorem gateCs_at : ∀ (gs : List GateM) (vs : List Value) (k : Nat) (g : GateM) (v : Value), gs[k]? = some g → vs[k]? = some v →
    (gateCs gs vs)[k * 3]? = some (I g.kind) ∧ (gateCs gs vs)[k * 3 + 1]? = some (I g.num) ∧ (gateCs gs vs)[k * 3 + 2]? = some v
  | [], vs, k, g, v, h, _ => by simp at h
  | g :: gs, [], k, g', v, _, h => by simp at h
  | g :: gs, v :: vs, 0, g', v', h, h' => by simp at h h'; subst h; subst h'; simp [gateCs]
  | g :: gs, v :: vs, k + 1, g', v', h, h' => by
    obtain ⟨h0, h1, h2⟩ := gateCs_at gs vs k g' v' (by simpa using h) (by simpa using h')
    have e : (k + 1) * 3 = k * 3 + 3 := by omega
    rw [e]
    exact ⟨by simpa [gateCs] using h0, by rw [show k * 3 + 3 + 1 = (k * 3 + 1) + 3 from by omega]; simpa [gateCs] using h1, by rw [show k * 3 + 3 + 2 = (k * 3 + 2) + 3 from by omega]; simpa [gateCs] using h2⟩
theorem gateCs_snoc : ∀ (gs : List GateM) (vs : List Value) (g : GateM) (v : Value), vs.length = gs.length → gateCs (gs ++ [g]) (vs ++ [v]) = gateCs gs vs ++ [I g.kind, I g.num, v]
  | [], [], g, v, _ => rfl
  | x :: gs, y :: vs, g, v, h => by simp only [List.cons_append, gateCs, gateCs_snoc gs vs g v (by simpa using h)]
  | [], v :: vs, _, _, h => by simp at h
  | g :: gs, [], _, _, h => by simp at h
/-- A row of gates of the call's own. -/
structure OwnG (w : World) (base : Nat) (s : Value) (gs : List GateM) (vs : List Value) : Prop where
  vl : vs.length = gs.length
  row : w.ownsRow base 95 3 s gs.length (gateCs gs vs)
  own : ∀ (k : Nat) v g, vs[k]? = some v → gs[k]? = some g → w.ownsRow base 3 1 v g.args.length (g.args.map I)
  apart : ∀ (j k : Nat) u v, j ≠ k → vs[j]? = some u → vs[k]? = some v → u.ownBlock = none ∨ u.ownBlock ≠ v.ownBlock
section
variable {w w' w0 : World} {base : Nat} {s : Value} {gs : List GateM} {vs : List Value}
theorem OwnG.nil (w : World) (base : Nat) : OwnG w base (.slice none 0 0) [] [] := ⟨rfl, World.ownsRow_nil _ _ _ _, fun k v g h => by simp at h, fun j k u v _ h => by simp at h⟩
theorem OwnG.ext (h : OwnG w base s gs vs) (hx : Ext w w') : OwnG w' base s gs vs := ⟨h.vl, own_ext h.row hx, fun k v g hv hg => own_ext (h.own k v g hv hg) hx, h.apart⟩
theorem OwnG.base_le {base' : Nat} (h : OwnG w base s gs vs) (hb : base' ≤ base) : OwnG w base' s gs vs := ⟨h.vl, own_base h.row hb, fun k v g hv hg => own_base (h.own k v g hv hg) hb, h.apart⟩
theorem OwnG.kept {row : Option Nat} (h : OwnG w base s gs vs) (hg : w.grownBy w' row) (hs : s.ownBlock = none ∨ s.ownBlock ≠ row) (hv : ∀ v ∈ vs, v.ownBlock = none ∨ v.ownBlock ≠ row) : OwnG w' base s gs vs :=
  ⟨h.vl, h.row.kept hg hs, fun k v g hk hgk => (h.own k v g hk hgk).kept hg (hv v (List.mem_of_getElem? hk)), h.apart⟩
/-- One gate more, whose args lie in memory that came later. -/
theorem OwnG.push (h : OwnG w0 base s gs vs) (hx : Ext w0 w) (hbase : base ≤ w0.heap.size) {s' v : Value} {g : GateM} (hv : w.ownsRow w0.heap.size 3 1 v g.args.length (g.args.map I))
    (hown : w'.ownsRow base 95 3 s' (gs.length + 1) (gateCs gs vs ++ [I g.kind, I g.num, v])) (hg : w.grownBy w' s.ownBlock) : OwnG w' base s' (gs ++ [g]) (vs ++ [v]) := by
  have hvl := h.vl
  have old : ∀ (k : Nat) u, vs[k]? = some u → u.ownBlock = none ∨ u.ownBlock ≠ v.ownBlock := fun k u hu => by
    have hk : k < gs.length := by have := (List.getElem?_eq_some_iff.1 hu).1; omega
    have h1 := h.own k u _ hu (List.getElem?_eq_getElem hk)
    cases hb : u.ownBlock with
    | none => exact .inl rfl
    | some b =>
      right; intro e
      have h2 := (h1.lt b hb).2
      have h3 := (hv.lt b e.symm).1
      omega
  refine ⟨by simp [hvl], ?_, fun k y z hy hz => ?_, fun j k u y hjk hu hy => ?_⟩
  · rw [gateCs_snoc gs vs g v hvl]; simpa using hown
  · by_cases hk : k < vs.length
    · rw [List.getElem?_append_left hk] at hy
      rw [List.getElem?_append_left (by omega)] at hz
      have h1 := own_ext (h.own k y z hy hz) hx
      exact h1.kept hg (own_types h1 (own_ext h.row hx) (by decide))
    · rw [List.getElem?_append_right (by omega)] at hy hz
      rw [← hvl] at hz
      cases hq : k - vs.length with
      | zero =>
        rw [hq] at hy hz
        simp at hy hz
        subst hy; subst hz
        exact (own_base hv hbase).kept hg (own_types hv (own_ext h.row hx) (by decide))
      | succ q => rw [hq] at hy; simp at hy
  · by_cases hj : j < vs.length
    · rw [List.getElem?_append_left hj] at hu
      by_cases hk : k < vs.length
      · rw [List.getElem?_append_left hk] at hy; exact h.apart j k u y hjk hu hy
      · rw [List.getElem?_append_right (by omega)] at hy
        cases hq : k - vs.length with
        | zero => rw [hq] at hy; simp at hy; subst hy; exact old j u hu
        | succ q => rw [hq] at hy; simp at hy
    · rw [List.getElem?_append_right (by omega)] at hu
      cases hq : j - vs.length with
      | zero =>
        rw [hq] at hu; simp at hu; subst hu
        by_cases hk : k < vs.length
        · rw [List.getElem?_append_left hk] at hy
          rcases old k y hy with e | e
          · cases hb : v.ownBlock with
            | none => exact .inl rfl
            | some b => right; rw [e]; exact fun q => by cases q
          · exact .inr (fun q => e q.symm)
        · rw [List.getElem?_append_right (by omega)] at hy
          cases hq2 : k - vs.length with
          | zero => omega
          | succ q => rw [hq2] at hy; simp at hy
      | succ q => rw [hq] at hu; simp at hu
theorem OwnG.slG (h : OwnG w base s gs vs) : ∃ A c, s = .slice A gs.length c ∧ gs.length ≤ c ∧ c ≤ maxLen ∧ SlG w A gs.length gs := by
  obtain ⟨A, c, rfl, h1, h2, hc⟩ := own_slice h.row
  refine ⟨A, c, rfl, h1, h2, rfl, fun k g hg => ?_⟩
  have hk : k < vs.length := by have := h.vl; have := (List.getElem?_eq_some_iff.1 hg).1; omega
  obtain ⟨e0, e1, e2⟩ := gateCs_at gs vs k g _ hg (List.getElem?_eq_getElem hk)
  obtain ⟨b, off, e, c0⟩ := hc _ _ e0
  obtain ⟨b', off', e', c1⟩ := hc _ _ e1
  rw [e] at e'; injection e' with e'; injection e' with q1 q2; subst q1; subst q2
  obtain ⟨b', off', e', c2⟩ := hc _ _ e2
  rw [e] at e'; injection e' with e'; injection e' with q1 q2; subst q1; subst q2
  obtain ⟨A', c', ev, g1, g2, hs⟩ := own_sl (h.own k _ g (List.getElem?_eq_getElem hk) hg)
  exact ⟨b, off, A', g.args.length, c', e, c0, c1, by rw [← Nat.add_assoc] at c2; rw [c2, ev], hs, g1, g2⟩
end
end Go.Proofs.Ytlafiddfplhafaa
/- A net of the call's own: what Fold and Drop hand back. -/
namespace Go.Proofs.Ytlafiddfplhafaa
set_option linter.unusedVariables false
set_option linter.unusedSimpArgs false
open Go.RowKit
theorem OwnG.box {w : World} {base b : Nat} {s : Value} {gs : List GateM} {vs : List Value} {cs : List Value} (h : OwnG w base s gs vs) (hb : Box w b 39 cs) (k : Nat) (u : Value) : OwnG (w.setCell ⟨b, k, none⟩ u) base s gs vs := by
  refine h.kept (grownBy_set w b k u) (.inr (hb.apart h.row (by decide))) fun v hv => .inr ?_
  obtain ⟨j, hj⟩ := List.mem_iff_getElem?.1 hv
  have hk : j < gs.length := by have := h.vl; have := (List.getElem?_eq_some_iff.1 hj).1; omega
  exact hb.apart (h.own j v _ hj (List.getElem?_eq_getElem hk)) (by decide)
structure NetO (w : World) (base : Nat) (i : Int) (GA : Option Addr) (gn gc : Nat) (RA : Option Addr) (rn rc : Nat) (OA : Option Addr) (on oc : Nat) (N : NetM) (vs : List Value) : Prop where
  ins : i = N.ins
  gl : N.gates.length = gn
  gates : OwnG w base (.slice GA gn gc) N.gates vs
  regs : w.ownsRow base 79 2 (.slice RA rn rc) rn (storeCs N.regs)
  outs : w.ownsRow base 3 1 (.slice OA on oc) on (N.outs.map I)
section
variable {w w' : World} {base : Nat} {i : Int} {GA : Option Addr} {gn gc : Nat} {RA : Option Addr} {rn rc : Nat} {OA : Option Addr} {on oc : Nat} {N : NetM} {vs : List Value}
theorem NetO.ext (h : NetO w base i GA gn gc RA rn rc OA on oc N vs) (hx : Ext w w') : NetO w' base i GA gn gc RA rn rc OA on oc N vs := ⟨h.ins, h.gl, h.gates.ext hx, own_ext h.regs hx, own_ext h.outs hx⟩
theorem NetO.base_le {base' : Nat} (h : NetO w base i GA gn gc RA rn rc OA on oc N vs) (hb : base' ≤ base) : NetO w base' i GA gn gc RA rn rc OA on oc N vs := ⟨h.ins, h.gl, h.gates.base_le hb, own_base h.regs hb, own_base h.outs hb⟩
theorem NetO.netC (h : NetO w base i GA gn gc RA rn rc OA on oc N vs) : NetC w i GA gn gc RA rn rc OA on oc N := by
  obtain ⟨A, c, e, g1, g2, hg⟩ := h.gates.slG
  injection e with e1 e2 e3
  subst e1; subst e3
  rw [h.gl] at g1 hg
  obtain ⟨A', c', e', r1, r2, -⟩ := own_slice h.regs
  injection e' with e1 _ e3; subst e1; subst e3
  obtain ⟨A', c', e', o1, o2, ho⟩ := own_sl h.outs
  injection e' with e1 _ e3; subst e1; subst e3
  exact ⟨h.ins, hg, slR_own h.regs, ho, ⟨g1, g2⟩, ⟨r1, r2⟩, ⟨o1, o2⟩⟩
end
def zeroN : NetM := ⟨0, [], [], []⟩
theorem NetO.zero (w : World) (base : Nat) : NetO w base 0 none 0 0 none 0 0 none 0 0 zeroN [] := ⟨rfl, rfl, OwnG.nil w base, World.ownsRow_nil _ _ _ _, World.ownsRow_nil _ _ _ _⟩
/-- A call has handed back a net of its own, and an error. -/
def NetRes (w w' : World) (base : Nat) (e : Ending) (x : Int) (N : NetM) : Prop :=
  ∃ i GA gn gc RA rn rc OA on oc vs, e = .returned (Pr (netV i GA gn gc RA rn rc OA on oc) (I x)) ∧ NetO w' base i GA gn gc RA rn rc OA on oc N vs ∧ Ext w w'
def foldR (N : NetM) : NetM := if checkN N = 0 then foldN N else zeroN
def dropR (N : NetM) : NetM := if checkN N = 0 then dropN N else zeroN
theorem opens_asked {N : NetM} (ok : NetOK N) : AskedOK N (opensM N.regs.length) (opensM N.ins.toNat) :=
  ⟨ok, by simp [opensM], by have := ok.ins0; simp [opensM]; omega, opens_good _, opens_good _⟩
theorem tab_gate : (Try.prog.info? 95).map (fun i => (i.zero, i.size, i.bytes)) = some (some (.agg #[.int .i64 0, .int .i64 0, .slice none 0 0]), 3, 40) := by kernel_rfl
theorem take_snoc {α : Type} {l : List α} {k : Nat} {x : α} (h : l[k]? = some x) : l.take (k + 1) = l.take k ++ [x] := by rw [List.take_add_one, h]; rfl
end Go.Proofs.Ytlafiddfplhafaa
/- forge.Run, by the program: of a right program. -/
namespace Go.Proofs.Ytlafiddfplhafaa
set_option linter.unusedVariables false
set_option linter.unusedSimpArgs false
open Go.RowKit
theorem timesM_rangeF {l : List Int} {m : Nat} (h : timesM l m = 0) : l.length ≤ 60 ∧ ∀ x ∈ l, 0 ≤ x ∧ x < (2 ^ m : Nat) := by
  unfold timesM at h
  split at h
  · cases h
  rename_i h1
  cases hb : l.any (badTime m) with
  | true => rw [hb] at h; simp at h
  | false =>
    refine ⟨by omega, fun x hx => ?_⟩
    have := List.any_eq_false.1 hb x hx
    simp only [badTime, Bool.or_eq_true, decide_eq_true_eq, not_or] at this
    have hp : ((2 ^ m : Nat) : Int) = (2 : Int) ^ m := by rw [Int.natCast_pow]; rfl
    rw [hp]
    omega
theorem fresh_waits (p : List PNode) (n : Nat) : waitsOK p (freshM n).waits := fun j h => by
  simp only [freshM, List.getElem?_replicate] at h
  split at h <;> simp at h
theorem OwnRows.setB {w : World} {base b : Nat} {sv : Value} {rows : List (List Int)} {vs cs : List Value} (h : OwnRows 23 3 w base sv rows vs) (hb : Box w b 59 cs) (k : Nat) (u : Value) : OwnRows 23 3 (w.setCell ⟨b, k, none⟩ u) base sv rows vs :=
  ⟨own_set h.row (hb.apart h.row (by decide)) k u, fun i v r hv hr => own_set (h.own i v r hv hr) (hb.apart (h.own i v r hv hr) (by decide)) k u⟩
theorem Sl.grown {w w' : World} {row : Option Nat} {b off n : Nat} {cs : List Value} (h : Sl w (some ⟨b, off, none⟩) n cs) (hg : w.grownBy w' row) (hne : row ≠ some b) : Sl w' (some ⟨b, off, none⟩) n cs :=
  ⟨h.1, fun k u hu => by
    obtain ⟨b', off', e, hc⟩ := h.2 k u hu
    injection e with e; injection e with e1 e2
    subst e1; subst e2
    exact ⟨_, _, rfl, (hg.cell_far _ (lt_of_cell hc) (fun e => hne e.symm)).trans hc⟩⟩
theorem RestC.grown {w w' : World} {row : Option Nat} {fr : Bool} {g1 g2 wn wc on oc : Nat} {r : RestM} (h : RestC w fr (some ⟨g1, 0, none⟩) wn wc (some ⟨g2, 0, none⟩) on oc r) (hg : w.grownBy w' row) (h1 : row ≠ some g1) (h2 : row ≠ some g2) :
    RestC w' fr (some ⟨g1, 0, none⟩) wn wc (some ⟨g2, 0, none⟩) on oc r :=
  ⟨h.fresh, h.waits.grown hg h1, h.outs.grown hg h2, h.wl, h.ol⟩
theorem rows_app {t : Tr} {r : RestM} {rows all : List (List Int)} {l : List Int} {k : Nat} {x : Int} (h : rows ++ runsT t r (l.drop k) = all) (hx : l[k]? = some x) : (rows ++ [(turnR t r x).outs.map bI]) ++ runsT t (turnR t r x) (l.drop (k + 1)) = all := by
  rw [← h]
  obtain ⟨hk, rfl⟩ := List.getElem?_eq_some_iff.1 hx
  rw [List.drop_eq_getElem_cons hk, runsT, List.append_assoc]; rfl
set_option maxHeartbeats 8000000 in
set_option maxRecDepth 100000 in
theorem run_good (A : Option Addr) (n c : Nat) (t : Tr) (B : Option Addr) (m d : Nat) (l : List Int) (w : World) (h : SlN w A n t.flat) (ok : t.ok) (hg : ∀ x ∈ t.flat, goodN x) (hs : t.size ≤ 14) (hc : checkP t.flat = 0) (hl : Sl w B m (l.map I)) (hm : m ≤ 64) (hr : timesM l 3 = 0) :
    Calls Try.prog 7 #[.slice A n c, .slice B m d] w fun e w' => ∃ v vs, e = .returned (Pr v (I 0)) ∧ OwnRows 23 3 w' w.heap.size v (runsT t (freshM t.size) l) vs ∧ Ext w w' := by
  have hn : n = t.size := by rw [← flat_size, h.1]
  have hn14 : n ≤ 14 := by omega
  have hnm : n ≤ maxLen := Nat.le_trans hn14 (by unfold maxLen; omega)
  have hmm : m ≤ maxLen := Nat.le_trans hm (by unfold maxLen; omega)
  have H := Lib.hid h; have HQ := Lib.hid hc; have HN := Lib.hid hn; have HNM := Lib.hid hnm; have HMM := Lib.hid hmm; have HL := Lib.hid hl; have HY := Lib.hid hr; have HOK := Lib.hid ok; have HG := Lib.hid hg; have HS := Lib.hid hs; have HN14 := Lib.hid hn14; have HM := Lib.hid hm
  clear h hc hn hnm hmm hl hr ok hg hs hn14 hm
  go_enter Try.func7, Try.ntmps7
  go_wp2_with fail
  refine (progCheck_any _ n c _ w H.out HNM.out).mono ?_; rintro e w1 ⟨rfl, x1⟩; rw [HQ.out]
  have X1 := Lib.hid x1; clear x1
  go_wp2_with fail
  refine (times_any B m d l 3 w1 (HL.out.keep X1.out.keeps) HMM.out (by omega)).mono ?_; rintro e w2 ⟨rfl, x2⟩; rw [HY.out]
  have X2 := Lib.hid (X1.out.trans x2); clear x2
  go_wp2_with fail
  refine (fresh_any A n c w2 HN14.out).mono ?_; rintro e w3 ⟨g1, g2, rfl, h1, h2, h3, h4, h5, x3⟩
  have X3 := Lib.hid (X2.out.trans x3); have O1 := Lib.hid h4; have O2 := Lib.hid h5
  clear h1 h2 h3 h4 h5 x3
  go_wp2_with fail
  obtain ⟨w4, hw4⟩ : ∃ q, q = w3.alloc (.cells #[Bv true, .slice (some ⟨g1, 0, none⟩) n n, .slice (some ⟨g2, 0, none⟩) 3 3] 59) := ⟨_, rfl⟩
  have hx4 : Ext w3 w4 := by rw [hw4]; exact (Ext.refl _).alloc _
  have hb4 : Box w4 w3.heap.size 59 [Bv true, .slice (some ⟨g1, 0, none⟩) n n, .slice (some ⟨g2, 0, none⟩) 3 3] := by rw [hw4]; exact Box.new w3 _ _
  have hr4 : RestC w4 true (some ⟨g1, 0, none⟩) n n (some ⟨g2, 0, none⟩) 3 3 (freshM t.size) := by
    obtain ⟨A1, c1, e1, -, -, s1⟩ := own_sl (own_ext O1.out hx4)
    obtain ⟨A2, c2, e2, -, -, s2⟩ := own_sl (own_ext O2.out hx4)
    injection e1 with e1 _ _; subst e1
    injection e2 with e2 _ _; subst e2
    exact ⟨rfl, by rw [← HN.out]; exact s1, s2, ⟨Nat.le_refl _, HNM.out⟩, ⟨Nat.le_refl _, by unfold maxLen; omega⟩⟩
  have HX4 := Lib.hid (X3.out.trans hx4); have HB4 := Lib.hid hb4; have HR4 := Lib.hid hr4
  rw [← hw4]
  clear hw4 hx4 hb4 hr4
  go_loopw [30, 9] (fun j v9 wr => ∃ (k : Nat) (fr : Bool) (g1 g2 : Nat) (A9 : Option Addr) (c9 : Nat) (r : RestM) (rows : List (List Int)) (vs : List Value), k ≤ m ∧ j = .int .i64 k ∧ v9 = .slice A9 k c9 ∧ Ext w wr ∧ Box wr w3.heap.size 59 [Bv fr, .slice (some ⟨g1, 0, none⟩) n n, .slice (some ⟨g2, 0, none⟩) 3 3] ∧ RestC wr fr (some ⟨g1, 0, none⟩) n n (some ⟨g2, 0, none⟩) 3 3 r ∧ r.waits.length = t.size ∧ r.outs.length = 3 ∧ waitsOK t.flat r.waits ∧
    rows.length = k ∧ OwnRows 23 3 wr w.heap.size (.slice A9 k c9) rows vs ∧ rows ++ runsT t r (l.drop k) = runsT t (freshM t.size) l) (fun j _ _ => m - (intOf j).toNat)
  case atStart => exact ⟨0, true, g1, g2, none, 0, freshM t.size, [], [], Nat.zero_le _, rfl, rfl, HX4.out, HB4.out, HR4.out, by simp [freshM], by simp [freshM], fresh_waits _ _, rfl, OwnRows.nil _ _ _ _, by simp⟩
  case round =>
    obtain ⟨k, fr, q1, q2, A9, c9, r, rows, vs, hk, rfl, rfl, hext, hbx, hrc, hwl, hol, hwo, hrl, hown, hmod⟩ := hrel
    by_cases hlt : k < m
    · obtain ⟨vb, vo, x, rfl, hv0, hvx⟩ := HL.out.at_ hlt
      have hv1 := hext.keeps _ _ hv0
      have hx8 := (timesM_rangeF HY.out).2 x (List.mem_of_getElem? hvx)
      have hm64 : m ≤ 64 := HM.out
      have z0 := hbx.cell 0; have z1 := hbx.cell 1; have z2 := hbx.cell 2
      have fz := hbx.free
      simp only [List.getElem?_cons_zero, List.getElem?_cons_succ] at z0 z1 z2
      have T := Lib.hid (turn_any A n c t fr (some ⟨q1, 0, none⟩) n n (some ⟨q2, 0, none⟩) 3 3 r x wr (H.out.keep hext.keeps) HOK.out HG.out HS.out hrc hwl hol hwo hx8.1 (by simpa using hx8.2))
      have HEX := Lib.hid hext; have HBX := Lib.hid hbx; have HRL := Lib.hid hrl; have HOWN := Lib.hid hown; have HMOD := Lib.hid hmod; have HVX := Lib.hid hvx; have HWO := Lib.hid hwo
      clear hv0 hvx hx8 hext hbx hrc hwl hol hwo hrl hown hmod
      go_wp2_with fail
      refine T.out.mono ?_
      rintro e w5 ⟨p1, p2, rfl, hp1, hp2, hrc5, hx5⟩
      have hbl := HBX.out.lt
      have hb5 := HBX.out.ext hx5
      have HB5 := Lib.hid hb5; have HR5 := Lib.hid hrc5; have HX5 := Lib.hid (HEX.out.trans hx5); have HXX := Lib.hid hx5
      have y0 := hx5.keeps _ _ z0; have y1 := hx5.keeps _ _ z1; have y2 := hx5.keeps _ _ z2
      have f5 := hb5.free
      clear z0 z1 z2 fz T hb5 hrc5 hx5 hv1
      go_upto_region 13 with fail
      obtain ⟨w6, hw6⟩ : ∃ q, q = ((w5.setCell ⟨w3.heap.size, 0, none⟩ (Bv false)).setCell ⟨w3.heap.size, 1, none⟩ (.slice (some ⟨p1, 0, none⟩) n n)).setCell ⟨w3.heap.size, 2, none⟩ (.slice (some ⟨p2, 0, none⟩) 3 3) := ⟨_, rfl⟩
      have n1 : w3.heap.size ≠ p1 := by omega
      have n2 : w3.heap.size ≠ p2 := by omega
      have hr6 : RestC w6 false (some ⟨p1, 0, none⟩) n n (some ⟨p2, 0, none⟩) 3 3 (turnR t r x) := by rw [hw6]; exact ((HR5.out.far n1 n2 _).far n1 n2 _).far n1 n2 _
      have hb6 : Box w6 w3.heap.size 59 [Bv false, .slice (some ⟨p1, 0, none⟩) n n, .slice (some ⟨p2, 0, none⟩) 3 3] := by rw [hw6]; exact ((HB5.out.set 0 (Bv false)).set 1 (.slice (some ⟨p1, 0, none⟩) n n)).set 2 (.slice (some ⟨p2, 0, none⟩) 3 3)
      have hx6 : Ext w w6 := by
        have h3 := X3.out.size
        rw [hw6]; exact ((HX5.out.setCell (p := ⟨w3.heap.size, 0, none⟩) h3 _).setCell (p := ⟨w3.heap.size, 1, none⟩) h3 _).setCell (p := ⟨w3.heap.size, 2, none⟩) h3 _
      have ho6 : OwnRows 23 3 w6 w.heap.size (.slice A9 k c9) rows vs := by rw [hw6]; exact (((HOWN.out.ext HXX.out).setB HB5.out 0 (Bv false)).setB (HB5.out.set 0 (Bv false)) 1 (.slice (some ⟨p1, 0, none⟩) n n)).setB ((HB5.out.set 0 (Bv false)).set 1 (.slice (some ⟨p1, 0, none⟩) n n)) 2 (.slice (some ⟨p2, 0, none⟩) 3 3)
      have HOW6 := Lib.hid ho6
      have HP1 : Hid ((Value.slice A9 k c9).ownBlock ≠ some p1 ∧ (Value.slice A9 k c9).ownBlock ≠ some p2) := ⟨fun e => by have := (HOWN.out.row.lt p1 e).2; omega, fun e => by have := (HOWN.out.row.lt p2 e).2; omega⟩
      rw [← hw6]
      have HR6 := Lib.hid hr6; have HB6 := Lib.hid hb6; have HX6 := Lib.hid hx6
      clear y0 y1 y2 f5 hw6 n1 n2 hr6 hb6 hx6 hbl hp1 hp2 ho6
      obtain ⟨R, hR⟩ : ∃ R, R = turnR t r x := ⟨_, rfl⟩
      have hol6 : R.outs.length = 3 := by rw [hR]; exact (turn_len t r x).2
      have hr7 := HR6.out
      rw [← hR] at hr7
      have y2 := HB6.out.cell 2
      simp only [List.getElem?_cons_zero, List.getElem?_cons_succ] at y2
      have HRR := Lib.hid hR; have HO6 := Lib.hid hol6; have HR7 := Lib.hid hr7
      obtain ⟨inf, hti, htz, hts1, hts2⟩ := info_parts tab_int'
      have HTI := Lib.hid hti; have HTZ := Lib.hid htz; have HT1 := Lib.hid hts1; have HT2 := Lib.hid hts2
      clear hR hol6 hr7 hti htz hts1 hts2
      go_wp2_with fail
      clear y2
      go_loopw [44, 12] (fun j v12 wr => ∃ (i : Nat) (A12 : Option Addr) (c12 : Nat), i ≤ 3 ∧ j = .int .i64 i ∧ v12 = .slice A12 i c12 ∧ Ext w6 wr ∧ wr.ownsRow w6.heap.size 3 1 (.slice A12 i c12) i (((R.outs.take i).map bI).map I)) (fun j _ _ => 3 - (intOf j).toNat)
      case atStart => exact ⟨0, none, 0, Nat.zero_le _, rfl, rfl, Ext.refl _, World.ownsRow_nil _ _ _ _⟩
      case round =>
        obtain ⟨i, A12, c12, hi, rfl, rfl, hext6, hown6⟩ := hrel
        by_cases hi3 : i < 3
        · obtain ⟨vb2, vo2, y, hvb, hv2, hvy⟩ := (HR7.out.keep hext6.keeps).outs.at_ hi3
          injection hvb with hvb
          injection hvb with hvb1 hvb2 _
          subst hvb1; subst hvb2
          have HE6 := Lib.hid hext6; have HO12 := Lib.hid hown6; have HVY := Lib.hid hvy
          have hs6 : w6.heap.size ≤ wr.heap.size := hext6.size
          have HS6 := Lib.hid hs6
          clear hext6 hown6 hvy hs6
          cases y
          · have hv3 : wr.cell? ⟨p2, i, none⟩ = some (Bv false) := by rw [show i = 0 + i from by omega]; exact hv2
            clear hv2
            go_wp2_with (at_builtin; refine wpList_append_lies _ rfl (.tmp 49) (.tmp 51) 23 rfl w6.heap.size 3 inf _ 1 8 Try.underlying23 HTI.out HTZ.out HT1.out HT2.out rfl (by omega) (.slice A12 i c12) i (((R.outs.take i).map bI).map I) rfl (own_ext HO12.out ((Ext.refl wr).alloc (.cells #[I 0] 3))) ⟨wr.heap.size, 0, none⟩ 1 1 [I 0] rfl rfl (fun j u hu => by rw [add_zero, World.cell?_alloc_new]; simpa using hu) (by simp [Value.oneCell']) (by omega) (by unfold maxLen; omega) (by omega) (Nat.le_trans HS6.out (by simp)) _ rfl ?_; intro g6 cap6 w7 hown7 hgr7 hat7 hlt7; have HO7 := Lib.hid hown7; have HG7 := Lib.hid hgr7; clear hown7 hgr7 hat7 hlt7)
            have hx7 := (Ext.refl wr).alloc (.cells #[I 0] 3)
            have hE7 : Ext w6 w7 := by
              have hg := HG7.out
              have he := HE6.out.trans hx7
              exact ⟨hg.os.trans he.os, hg.tape.trans he.tape, hg.output.trans he.output, Nat.le_trans he.size hg.size, fun q hq => (hg.block q (Nat.lt_of_lt_of_le hq he.size) (fun e => by have := (HO12.out.lt q e.symm).1; omega)).trans (he.block q hq)⟩
            have HE7 := Lib.hid hE7
            clear hx7 hE7
            go_roundw
            case rel => exact ⟨i + 1, _, _, by omega, by go_num, rfl, HE7.out, by rw [take_snoc HVY.out]; simpa [bI] using HO7.out⟩
            case measure => simp [intOf]; omega
          · have hv3 : wr.cell? ⟨p2, i, none⟩ = some (Bv true) := by rw [show i = 0 + i from by omega]; exact hv2
            clear hv2
            go_wp2_with (at_builtin; refine wpList_append_lies _ rfl (.tmp 49) (.tmp 51) 23 rfl w6.heap.size 3 inf _ 1 8 Try.underlying23 HTI.out HTZ.out HT1.out HT2.out rfl (by omega) (.slice A12 i c12) i (((R.outs.take i).map bI).map I) rfl (own_ext HO12.out ((Ext.refl wr).alloc (.cells #[I 1] 3))) ⟨wr.heap.size, 0, none⟩ 1 1 [I 1] rfl rfl (fun j u hu => by rw [add_zero, World.cell?_alloc_new]; simpa using hu) (by simp [Value.oneCell']) (by omega) (by unfold maxLen; omega) (by omega) (Nat.le_trans HS6.out (by simp)) _ rfl ?_; intro g6 cap6 w7 hown7 hgr7 hat7 hlt7; have HO7 := Lib.hid hown7; have HG7 := Lib.hid hgr7; clear hown7 hgr7 hat7 hlt7)
            have hx7 := (Ext.refl wr).alloc (.cells #[I 1] 3)
            have hE7 : Ext w6 w7 := by
              have hg := HG7.out
              have he := HE6.out.trans hx7
              exact ⟨hg.os.trans he.os, hg.tape.trans he.tape, hg.output.trans he.output, Nat.le_trans he.size hg.size, fun q hq => (hg.block q (Nat.lt_of_lt_of_le hq he.size) (fun e => by have := (HO12.out.lt q e.symm).1; omega)).trans (he.block q hq)⟩
            have HE7 := Lib.hid hE7
            clear hx7 hE7
            go_roundw
            case rel => exact ⟨i + 1, _, _, by omega, by go_num, rfl, HE7.out, by rw [take_snoc HVY.out]; simpa [bI] using HO7.out⟩
            case measure => simp [intOf]; omega
        · have hi3' : i = 3 := by omega
          have htk : (R.outs.take i) = R.outs := List.take_of_length_le (by rw [HO6.out]; omega)
          rw [htk] at hown6
          subst hi3'
          have hxw := HX6.out.trans hext6
          have hr := own_base hown6 HX6.out.size
          have HRW := Lib.hid hr
          have HOW := Lib.hid (HOW6.out.ext hext6)
          have HB := Lib.hid (HB6.out.ext hext6)
          have HRC := Lib.hid (HR7.out.keep hext6.keeps)
          have HXW := Lib.hid hxw
          have hlr : rows.length = k := HRL.out
          have HLR := Lib.hid hlr
          have hm64 : m ≤ 64 := HM.out
          clear hext6 hown6 hr hxw htk hlr
          go_wp2_with (at_builtin; refine wpList_push rfl (.tmp 54) (.tmp 56) 24 23 rfl tab_ints Try.underlying24 rfl (by omega) w wr HXW.out (.slice A9 k c9) k vs rfl (by have := HOW.out.row; rw [HLR.out] at this; exact this) [.slice A12 3 c12] rfl rfl rfl (by simp [Value.oneCell']) (by unfold maxLen; omega) (by omega) ?_; intro v' w8 hown8 hx8 hg8)
          have HOWN8 := Lib.hid hown8; have HX8 := Lib.hid hx8; have HG8 := Lib.hid hg8
          clear hown8 hx8 hg8
          go_roundw
          case rel =>
            obtain ⟨g9, cap9, e9⟩ : ∃ g9 cap9, v' = .slice g9 (k + 1) cap9 := by
              obtain ⟨A, c, e, -⟩ := own_slice HOWN8.out
              exact ⟨A, c, e⟩
            subst e9
            refine ⟨k + 1, false, p1, p2, g9, cap9, R, rows ++ [R.outs.map bI], vs ++ [.slice A12 3 c12], by omega, by go_num, rfl, HX8.out, HB.out.kept HG8.out (HB.out.apart HOW.out.row (by decide)), HRC.out.grown HG8.out HP1.out.1 HP1.out.2, ?_, HO6.out, ?_, by simp [HLR.out], ?_, ?_⟩
            · rw [HRR.out]; exact (turn_len t r x).1
            · rw [HRR.out]; exact turn_waits x HOK.out HG.out HWO.out
            · refine HOW.out.push (by decide) (by rw [List.length_map, HO6.out]; exact HRW.out) (by rw [HLR.out]; exact HOWN8.out) HG8.out
            · rw [HRR.out]; exact rows_app HMOD.out HVX.out
          case measure => simp [intOf]; omega
    · have hkm : k = m := by omega
      subst hkm
      have hlen : l.length = k := by have := HL.out.len; simpa using this
      rw [List.drop_eq_nil_of_le (by omega)] at hmod
      have hrows : rows = runsT t (freshM t.size) l := by simpa [runsT] using hmod
      rw [hrows] at hown
      have HX := Lib.hid hext; have HOWN := Lib.hid hown
      clear hext hbx hrc hwl hol hwo hrl hown hmod hlen hrows
      go_wp2
      exact bodyPost_ret (v := Pr (.slice A9 k c9) (I 0)) (by simp [results, Try.results7, go_sem]) rfl ⟨_, vs, rfl, HOWN.out, HX.out⟩
end Go.Proofs.Ytlafiddfplhafaa
/- forge.Run: of whatever program and inputs. -/
namespace Go.Proofs.Ytlafiddfplhafaa
set_option linter.unusedVariables false
set_option linter.unusedSimpArgs false
open Go.RowKit
/-- What Run hands back beside its error. -/
def runRows (p : List PNode) (l : List Int) : List (List Int) := if runErr p l = 0 then runsT (treeOf p) (freshM (treeOf p).size) l else []
theorem runErr_ok {p : List PNode} {l : List Int} (h : runErr p l = 0) : checkP p = 0 ∧ timesM l 3 = 0 := by
  unfold runErr at h
  split at h
  · rename_i h0; exact ⟨h0, h⟩
  · rename_i h0; exact absurd h h0
theorem frun_any (A : Option Addr) (n c : Nat) (p : List PNode) (B : Option Addr) (m d : Nat) (l : List Int) (w : World) (h : SlN w A n p) (hn : n ≤ maxLen) (hl : Sl w B m (l.map I)) (hm : m ≤ maxLen) :
    Calls Try.prog 7 #[.slice A n c, .slice B m d] w fun e w' => ∃ v vs, e = .returned (Pr v (I (runErr p l))) ∧ OwnRows 23 3 w' w.heap.size v (runRows p l) vs ∧ Ext w w' := by
  by_cases h0 : runErr p l = 0
  · obtain ⟨h1, h2⟩ := runErr_ok h0
    obtain ⟨t1, t2, t3, t4⟩ := tree_of h1
    have hm64 : m ≤ 64 := by have := (timesM_rangeF h2).1; have := hl.len; omega
    rw [runRows, if_pos h0, h0]
    exact run_good A n c (treeOf p) B m d l w (by rw [← t2]; exact h) t1 t4 t3 (by rw [← t2]; exact h1) hl hm64 h2
  · refine (run_bad A n c p B m d l w h hn hl hm h0).mono ?_
    rintro e w' ⟨h1, h2⟩
    rw [runRows, if_neg h0]
    exact ⟨_, [], h1, OwnRows.nil _ _ _ _, h2⟩
end Go.Proofs.Ytlafiddfplhafaa
