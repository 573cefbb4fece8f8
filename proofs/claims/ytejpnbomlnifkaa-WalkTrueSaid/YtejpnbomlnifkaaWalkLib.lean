/- The walker of package walk: how it lies in memory; there, wait, some, Fresh. -/
import Derived.Test.YtejpnbomlnifkaaPg5
import Derived.Test.YtejpnbomlnifkaaTreePlain
import Derived.Test.YtejpnbomlnifkaaNetLib
import Derived.Test.YtejpnbomlnifkaaLib2
import Derived.Deep.RegionHeld3
import Derived.Deep.DrawnRows
import Derived.RegionTactic
import Derived.ChangeAlike
namespace Go.Proofs.Ytejpnbomlnifkaa
set_option linter.unusedVariables false
set_option linter.unusedSimpArgs false
open Go.RowKit

/-- All that was there is as it was, but for two blocks; new memory may have come. -/
structure Off (g1 g2 : Nat) (w w' : World) : Prop where
  os : w'.os = w.os
  tape : w'.tape = w.tape
  output : w'.output = w.output
  size : w.heap.size ≤ w'.heap.size
  block : ∀ k, k < w.heap.size → k ≠ g1 → k ≠ g2 → w'.heap[k]? = w.heap[k]?
section
variable {g1 g2 : Nat} {a b c : World}
theorem Off.refl (g1 g2 : Nat) (w : World) : Off g1 g2 w w := ⟨rfl, rfl, rfl, Nat.le_refl _, fun _ _ _ _ => rfl⟩
theorem Off.trans (h : Off g1 g2 a b) (k : Off g1 g2 b c) : Off g1 g2 a c :=
  ⟨k.os.trans h.os, k.tape.trans h.tape, k.output.trans h.output, Nat.le_trans h.size k.size, fun i hi h1 h2 => (k.block i (Nat.lt_of_lt_of_le hi h.size) h1 h2).trans (h.block i hi h1 h2)⟩
theorem Off.of_ext (h : Ext a b) : Off g1 g2 a b := ⟨h.os, h.tape, h.output, h.size, fun i hi _ _ => h.block i hi⟩
theorem Off.alloc (h : Off g1 g2 a b) (o : Obj) : Off g1 g2 a (b.alloc o) := h.trans (.of_ext ((Ext.refl b).alloc o))
theorem Off.drewN (h : Off g1 g2 a b) (n : Nat) : Off g1 g2 a (b.drewN n) := h.trans (.of_ext ((Ext.refl b).drewN n))
theorem Off.drew (h : Off g1 g2 a b) : Off g1 g2 a b.drew := h.trans (.of_ext ((Ext.refl b).drew))
theorem Off.set1 (h : Off g1 g2 a b) (j : Nat) (v : Value) : Off g1 g2 a (b.setCell ⟨g1, j, none⟩ v) :=
  h.trans ⟨rfl, rfl, rfl, by simp, fun i _ h1 _ => heap_setCell_other b ⟨g1, j, none⟩ i v h1⟩
theorem Off.set2 (h : Off g1 g2 a b) (j : Nat) (v : Value) : Off g1 g2 a (b.setCell ⟨g2, j, none⟩ v) :=
  h.trans ⟨rfl, rfl, rfl, by simp, fun i _ _ h2 => heap_setCell_other b ⟨g2, j, none⟩ i v h2⟩
theorem Off.setNew (h : Off g1 g2 a b) {p : Addr} (hp : a.heap.size ≤ p.block) (v : Value) : Off g1 g2 a (b.setCell p v) :=
  ⟨h.os, h.tape, h.output, by simpa using h.size, fun i hi h1 h2 => by
    rw [heap_setCell_other b p i v (by omega)]; exact h.block i hi h1 h2⟩
theorem Off.cell (h : Off g1 g2 a b) {p : Addr} {u : Value} (hc : a.cell? p = some u) (h1 : p.block ≠ g1) (h2 : p.block ≠ g2) : b.cell? p = some u :=
  (World.cell?_of_block (h.block p.block (lt_of_cell hc) h1 h2)).trans hc
theorem Off.free (h : Off g1 g2 a b) {p : Addr} {u : Value} (hc : a.cell? p = some u) (h1 : p.block ≠ g1) (h2 : p.block ≠ g2) : b.frozen? p = a.frozen? p :=
  World.frozen?_of_block (h.block p.block (lt_of_cell hc) h1 h2)
theorem Off.ext {w0 : World} (h : Off g1 g2 a b) (e : Ext w0 a) (h1 : w0.heap.size ≤ g1) (h2 : w0.heap.size ≤ g2) : Ext w0 b :=
  ⟨h.os.trans e.os, h.tape.trans e.tape, h.output.trans e.output, Nat.le_trans e.size h.size, fun i hi => (h.block i (Nat.lt_of_lt_of_le hi e.size) (by omega) (by omega)).trans (e.block i hi)⟩
end

/-- The walker in memory, and the state of its next rest. -/
structure WSt (w0 : World) (b g1 g2 : Nat) (PA : Option Addr) (n pc : Nat) (fr : Bool) (WA : Option Addr) (wc : Nat) (OA : Option Addr) (oc : Nat) (ins : Int) (wr : World) (s : StM) : Prop where
  ext : Ext w0 wr
  hb : w0.heap.size ≤ b
  h1 : w0.heap.size ≤ g1
  h2 : w0.heap.size ≤ g2
  b1 : b ≠ g1
  b2 : b ≠ g2
  g12 : g1 ≠ g2
  c0 : wr.cell? ⟨b, 0, none⟩ = some (.slice PA n pc)
  c1 : wr.cell? ⟨b, 1, none⟩ = some (Bv fr)
  c2 : wr.cell? ⟨b, 2, none⟩ = some (.slice WA n wc)
  c3 : wr.cell? ⟨b, 3, none⟩ = some (.slice OA 3 oc)
  c4 : wr.cell? ⟨b, 4, none⟩ = some (Bv false)
  c5 : wr.cell? ⟨b, 5, none⟩ = some (.slice (some ⟨g1, 0, none⟩) n n)
  c6 : wr.cell? ⟨b, 6, none⟩ = some (.slice (some ⟨g2, 0, none⟩) 3 3)
  c7 : wr.cell? ⟨b, 7, none⟩ = some (I ins)
  W : wr.ownsRow w0.heap.size 4 1 (.slice (some ⟨g1, 0, none⟩) n n) n (s.W.map Bv)
  O : wr.ownsRow w0.heap.size 4 1 (.slice (some ⟨g2, 0, none⟩) 3 3) 3 (s.O.map Bv)
section
variable {w0 : World} {b g1 g2 : Nat} {PA : Option Addr} {n pc : Nat} {fr : Bool} {WA : Option Addr} {wc : Nat} {OA : Option Addr} {oc : Nat} {ins : Int} {wr w' : World} {s s' : StM}
theorem WSt.off (h : WSt w0 b g1 g2 PA n pc fr WA wc OA oc ins wr s) (k : Off g1 g2 wr w') (hW : w'.ownsRow w0.heap.size 4 1 (.slice (some ⟨g1, 0, none⟩) n n) n (s'.W.map Bv)) (hO : w'.ownsRow w0.heap.size 4 1 (.slice (some ⟨g2, 0, none⟩) 3 3) 3 (s'.O.map Bv)) :
    WSt w0 b g1 g2 PA n pc fr WA wc OA oc ins w' s' :=
  ⟨k.ext h.ext h.h1 h.h2, h.hb, h.h1, h.h2, h.b1, h.b2, h.g12, k.cell h.c0 h.b1 h.b2, k.cell h.c1 h.b1 h.b2, k.cell h.c2 h.b1 h.b2, k.cell h.c3 h.b1 h.b2, k.cell h.c4 h.b1 h.b2, k.cell h.c5 h.b1 h.b2, k.cell h.c6 h.b1 h.b2, k.cell h.c7 h.b1 h.b2, hW, hO⟩
theorem WSt.more (h : WSt w0 b g1 g2 PA n pc fr WA wc OA oc ins wr s) (k : Ext wr w') : WSt w0 b g1 g2 PA n pc fr WA wc OA oc ins w' s :=
  h.off (.of_ext k) (own_ext h.W k) (own_ext h.O k)
theorem WSt.wlen (h : WSt w0 b g1 g2 PA n pc fr WA wc OA oc ins wr s) : s.W.length = n := by have := h.W.1; simpa using this
theorem WSt.olen (h : WSt w0 b g1 g2 PA n pc fr WA wc OA oc ins wr s) : s.O.length = 3 := by have := h.O.1; simpa using this
/-- A place of the next waits is written. -/
theorem WSt.setW (h : WSt w0 b g1 g2 PA n pc fr WA wc OA oc ins wr s) (k : Nat) : WSt w0 b g1 g2 PA n pc fr WA wc OA oc ins (wr.setCell ⟨g1, k, none⟩ (Bv true)) (waitSt s k) :=
  h.off ((Off.refl g1 g2 wr).set1 k _) (by have := (h.W.stored k (Bv true)).1; simpa [waitSt, List.map_set] using this) (own_other h.O (fun e => h.g12 (Option.some.inj e).symm))
theorem WSt.setO (h : WSt w0 b g1 g2 PA n pc fr WA wc OA oc ins wr s) (k : Nat) : WSt w0 b g1 g2 PA n pc fr WA wc OA oc ins (wr.setCell ⟨g2, k, none⟩ (Bv true)) (emitSt s k) :=
  h.off ((Off.refl g1 g2 wr).set2 k _) (own_other h.W (fun e => h.g12 (Option.some.inj e))) (by have := (h.O.stored k (Bv true)).1; simpa [emitSt, List.map_set] using this)
end

section
variable (w0 : World) (b g1 g2 : Nat) (PA : Option Addr) (n pc : Nat) (fr : Bool) (WA : Option Addr) (wc : Nat) (OA : Option Addr) (oc : Nat) (ins : Int)
set_option maxHeartbeats 2000000 in
theorem wthere_any (wr : World) (s : StM) (h : WSt w0 b g1 g2 PA n pc fr WA wc OA oc ins wr s) (h0 : 0 ≤ ins) (h8 : ins < 8) (g : Int) (g0 : 0 ≤ g) (g2' : g ≤ 2) :
    Calls Try.prog 57 #[.pointer (some ⟨b, 0, none⟩), I g] wr fun e w' => e = .returned (.bool (thereM ins g)) ∧ wr = w' := by
  have c7 := h.c7
  clear h
  have h1 : ins = 0 ∨ ins = 1 ∨ ins = 2 ∨ ins = 3 ∨ ins = 4 ∨ ins = 5 ∨ ins = 6 ∨ ins = 7 := by omega
  have h2 : g = 0 ∨ g = 1 ∨ g = 2 := by omega
  clear h0 h8 g0 g2'
  rcases h1 with rfl | rfl | rfl | rfl | rfl | rfl | rfl | rfl <;> rcases h2 with rfl | rfl | rfl
  all_goals
    go_enter Try.func57, Try.ntmps57
    go_wp2
    go_ret
    exact ⟨ret_bool (by decide), rfl⟩
theorem wwait_any (wr : World) (s : StM) (h : WSt w0 b g1 g2 PA n pc fr WA wc OA oc ins wr s) (k : Nat) (hk : k < n) :
    Calls Try.prog 58 #[.pointer (some ⟨b, 0, none⟩), I k] wr fun e w' => e = .returned (.bool false) ∧ wr.setCell ⟨g1, k, none⟩ (Bv true) = w' := by
  have c5 := h.c5
  have hf := own_at h.W hk
  obtain ⟨⟨u, hu, hcu⟩, hfz, hbg⟩ := hf
  clear h hu
  go_enter Try.func58, Try.ntmps58
  go_wp2
  go_ret
  exact ⟨rfl, rfl⟩
end
theorem Sl.sub {w : World} {b off n : Nat} {cs : List Value} (h : Sl w (some ⟨b, off, none⟩) n cs) (lo m : Nat) (hm : lo + m ≤ n) : Sl w (some ⟨b, off + lo, none⟩) m ((cs.drop lo).take m) := by
  refine ⟨by have := h.1; simp; omega, fun k u hu => ?_⟩
  rw [List.getElem?_take] at hu
  split at hu
  · rw [List.getElem?_drop] at hu
    obtain ⟨b', off', e, hc⟩ := h.2 _ _ hu
    injection e with e; injection e with e1 e2
    subst e1; subst e2
    exact ⟨_, _, rfl, by rw [Nat.add_assoc]; exact hc⟩
  · cases hu
theorem wsome_any (w0 : World) (b g1 g2 : Nat) (PA : Option Addr) (n pc : Nat) (fr : Bool) (WA : Option Addr) (wc : Nat) (OA : Option Addr) (oc : Nat) (ins : Int) (wr : World) (s : StM) (h : WSt w0 b g1 g2 PA n pc fr WA wc OA oc ins wr s)
    (p : List PNode) (V : List Bool) (hp : SlN w0 PA n p) (hV : Sl w0 WA n (V.map Bv)) (hwc : n ≤ wc) (hn : n ≤ 14) (k : Nat) (t : Tr) (ht : TreeAt p k t) (ok : t.ok) :
    Calls Try.prog 50 #[.pointer (some ⟨b, 0, none⟩), I k] wr fun e w' => e = .returned (.bool (someT V t k)) ∧ wr = w' := by
  have hle := ht.le
  have hpl := hp.1
  have hsz := size_pos t
  have hkn : k < n := by omega
  obtain ⟨wb, woff, x, rfl, -, -⟩ := hV.next hkn
  have c0 := h.c0; have c2 := h.c2
  have hof : ((ofP p k).2.2) = (k : Int) + t.size := by
    cases t with
    | leaf x => rw [ht.of_leaf ok]; simp [Tr.size]
    | two x a b => rw [ht.of_two ok]
  have hks : k + t.size ≤ n := by omega
  have hcc : k + t.size ≤ wc := by omega
  have hkc : k ≠ wc := by omega
  have hP := Lib.hid (hp.keep h.ext.keeps)
  have hVV := Lib.hid ((hV.keep h.ext.keeps).sub k t.size hks)
  have HOF := Lib.hid hof
  have hmap : ((V.map Bv).drop k).take t.size = ((V.drop k).take t.size).map Bv := by simp
  have HMAP := Lib.hid hmap
  have kk : IntKind.i64.wrap ((k : Int) + (t.size : Int) - (k : Int)) = t.size := by rw [show (k : Int) + (t.size : Int) - (k : Int) = t.size from by omega]; exact IntWalk.i64_in _ (by omega)
  clear h hof ok hp hV ht hle hpl hmap kk
  go_enter Try.func50, Try.ntmps50
  go_wp2_with fail
  refine (progOf_any _ n pc p k wr hP.out (by omega) hkn).mono ?_; rintro e w' ⟨rfl, rfl⟩; rw [HOF.out]
  go_wp2_with fail
  refine (containsBool_any _ t.size _ ((V.drop k).take t.size) true wr (by rw [← HMAP.out]; exact hVV.out) (by unfold maxLen; omega)).mono ?_; rintro e w' ⟨rfl, rfl⟩
  go_wp2
  go_ret
  exact ⟨ret_bool (by simp [someT]), rfl⟩

set_option maxHeartbeats 2000000 in
theorem fresh_any (A : Option Addr) (n c : Nat) (w : World) (hn : n ≤ 14) :
    Calls Try.prog 28 #[.slice A n c] w fun e w' => ∃ g1 g2, e = .returned (.agg #[Bv true, .slice (some ⟨g1, 0, none⟩) n n, .slice (some ⟨g2, 0, none⟩) 3 3]) ∧ w.heap.size ≤ g1 ∧ w.heap.size ≤ g2 ∧ g1 ≠ g2 ∧
      w'.ownsRow w.heap.size 4 1 (.slice (some ⟨g1, 0, none⟩) n n) n ((List.replicate n false).map Bv) ∧ w'.ownsRow w.heap.size 4 1 (.slice (some ⟨g2, 0, none⟩) 3 3) 3 (([false, false, false] : List Bool).map Bv) ∧ Ext w w' := by
  have hmk := fun W => run_make1 (P := Try.prog) 27 4 tab_bool Try.underlying27 rfl n (by omega) (by omega) W
  have hm3 : ∀ W, (Instr.makeSlice 27 (.int .i64 3) (.int .i64 3)).run Try.prog W = .ok (.slice (some ⟨W.heap.size, 0, none⟩) 3 3) (W.alloc (.cells (zeros (.bool false) 3) 4)) := fun W => run_make1 (P := Try.prog) 27 4 tab_bool Try.underlying27 rfl 3 (by omega) (by omega) W
  go_enter Try.func28, Try.ntmps28
  go_wp2_with fail
  go_region
  · go_wp2
    refine bodyPost_ret (v := .agg #[Bv true, .slice (some ⟨w.heap.size + 1, 0, none⟩) n n, .slice (some ⟨w.heap.size + 1 + 1, 0, none⟩) 3 3]) (by simp [results, Try.results28, go_sem]) rfl ⟨w.heap.size + 1, w.heap.size + 1 + 1, rfl, by omega, by omega, by omega, ?_, ?_, (((Ext.refl w).alloc _).alloc _).alloc _ |>.drew⟩
    · have := own_ext (own_made (w.alloc (.cells #[.bool true, .slice (some ⟨w.heap.size + 1, 0, none⟩) n n, .slice (some ⟨w.heap.size + 1 + 1, 0, none⟩) 3 3] 39)) 4 (.bool false) n w.heap.size (by simp) (by unfold maxLen; omega)) (((Ext.refl _).alloc (.cells (zeros (.bool false) 3) 4)).drew)
      simpa using this
    · have := own_ext (own_made ((w.alloc (.cells #[.bool true, .slice (some ⟨w.heap.size + 1, 0, none⟩) n n, .slice (some ⟨w.heap.size + 1 + 1, 0, none⟩) 3 3] 39)).alloc (.cells (zeros (.bool false) n) 4)) 4 (.bool false) 3 w.heap.size (by simp; omega) (by unfold maxLen; omega)) ((Ext.refl _).drew)
      simpa using this
  · go_wp2
    refine bodyPost_ret (v := .agg #[Bv true, .slice (some ⟨w.heap.size + 1 + 1, 0, none⟩) n n, .slice (some ⟨w.heap.size + 1, 0, none⟩) 3 3]) (by simp [results, Try.results28, go_sem]) rfl ⟨w.heap.size + 1 + 1, w.heap.size + 1, rfl, by omega, by omega, by omega, ?_, ?_, (((Ext.refl w).alloc _).alloc _).alloc _ |>.drew⟩
    · have := own_ext (own_made ((w.alloc (.cells #[.bool true, .slice (some ⟨w.heap.size + 1 + 1, 0, none⟩) n n, .slice (some ⟨w.heap.size + 1, 0, none⟩) 3 3] 39)).alloc (.cells (zeros (.bool false) 3) 4)) 4 (.bool false) n w.heap.size (by simp; omega) (by unfold maxLen; omega)) ((Ext.refl _).drew)
      simpa using this
    · have := own_ext (own_made (w.alloc (.cells #[.bool true, .slice (some ⟨w.heap.size + 1 + 1, 0, none⟩) n n, .slice (some ⟨w.heap.size + 1, 0, none⟩) 3 3] 39)) 4 (.bool false) 3 w.heap.size (by simp) (by unfold maxLen; omega)) (((Ext.refl _).alloc (.cells (zeros (.bool false) n) 4)).drew)
      simpa using this
end Go.Proofs.Ytejpnbomlnifkaa
