/- Words of a desk: listed, inputs, rest, by the program. -/
import Derived.Test.YtgohhcnmkomafaaGreatDoorDz01
import Derived.Test.YtgohhcnmkomafaaGreatDoorDz02
import Derived.Test.YtgohhcnmkomafaaGreatDoorDz03
import Derived.Test.YtgohhcnmkomafaaGreatDoorDz04
namespace Go.Proofs.YtgohhcnmkomafaaGreatDoor
set_option linter.unusedVariables false
set_option linter.unusedSimpArgs false
set_option linter.unusedVariables false
set_option linter.unusedSimpArgs false
set_option maxRecDepth 100000
open Go.RowKit
theorem tab_str : (Tryz.prog.info? 9).map (fun i => (i.zero, i.size, i.bytes)) = some (some (.string ⟨#[]⟩), 1, 16) := by kernel_rfl
def bytesOf (l : List UInt8) : ByteArray := ⟨l.toArray⟩
theorem bytes_list (ws : List (List UInt8)) : (ws.map bytesOf).map (fun x => x.data.toList) = ws := by
  rw [List.map_map]; conv => rhs; rw [← List.map_id ws]
  exact List.map_congr_left fun a _ => by simp [bytesOf]
theorem itoa_any (k : Nat) (hk : k < 100) (w : World) : Calls Tryz.prog 40 #[.int .i64 k] w fun e w' => e = .returned (S (digD k)) ∧ w = w' :=
  (Tryz.strconv_Itoa_small k hk w).mono fun e w' ⟨h1, h2⟩ => ⟨by rw [h1, dec_dig hk], h2.symm⟩
theorem index_any (s sub : List UInt8) (m : Int) (w : World) (hs : s.length < 4294967281) (hm : w.cell? ⟨0, 0, none⟩ = some (.int .i64 m)) : Calls Tryz.prog 31 #[S s, S sub] w fun e w' => e = .returned (I (Lib.index s sub)) ∧ w = w' :=
  (Tryz.strings_Index ⟨s.toArray⟩ ⟨sub.toArray⟩ m w hs hm).mono fun e w' ⟨h1, h2⟩ => ⟨by rw [h1], h2.symm⟩
theorem count_nl (s : List UInt8) (w : World) : Calls Tryz.prog 8 #[S s, S [10]] w fun e w' => e = .returned (I (s.count 10 : Nat)) ∧ w = w' :=
  (Tryz.strings_Count_one ⟨s.toArray⟩ 10 w).mono fun e w' ⟨h1, h2⟩ => ⟨by rw [h1]; rfl, h2.symm⟩
theorem suffix_any (s p : List UInt8) (w : World) (hs : s.length ≤ 9223372036854775807) : Calls Tryz.prog 9 #[S s, S p] w fun e w' => e = .returned (.bool (p.isSuffixOf s)) ∧ w = w' :=
  (Tryz.strings_HasSuffix ⟨s.toArray⟩ ⟨p.toArray⟩ w hs).mono fun e w' ⟨h1, h2⟩ => ⟨by rw [h1]; rfl, h2.symm⟩
theorem trim_any (s p : List UInt8) (w : World) (hs : s.length ≤ 9223372036854775807) : Calls Tryz.prog 14 #[S s, S p] w fun e w' => e = .returned (S (Lib.trimSuffix s p)) ∧ w = w' :=
  (Tryz.strings_TrimSuffix ⟨s.toArray⟩ ⟨p.toArray⟩ w hs).mono fun e w' ⟨h1, h2⟩ => ⟨by rw [h1], h2.symm⟩
theorem indexByte_nl (s : List UInt8) (w : World) : Calls Tryz.prog 34 #[S s, .int .u8 10] w fun e w' => e = .returned (I (Lib.indexByte s 10)) ∧ w = w' :=
  (Tryz.strings_IndexByte ⟨s.toArray⟩ 10 w).mono fun e w' ⟨h1, h2⟩ => ⟨by rw [h1]; rfl, h2.symm⟩
theorem split_sp (s : List UInt8) (m : Int) (w : World) (hs : s.length < 4294967281) (hm : w.cell? ⟨0, 0, none⟩ = some (.int .i64 m)) :
    Calls Tryz.prog 36 #[S s, S [32]] w fun e w' => ∃ n, e = .returned (.slice (some ⟨w.heap.size, 0, none⟩) n n) ∧ Sl w' (some ⟨w.heap.size, 0, none⟩) n ((Lib.split s [32]).map S) ∧ 1 ≤ n ∧ n ≤ s.length + 1 ∧ Ext w w' := by
  refine (Tryz.strings_Split ⟨s.toArray⟩ ⟨#[32]⟩ m w hs hm (by decide)).mono ?_
  rintro e w' ⟨rfl, rfl⟩
  have hsz : (⟨#[32]⟩ : ByteArray).size = 1 := rfl
  have hlen := Lib.splitB_all ⟨#[32]⟩ (by rw [hsz]; omega) 0 _ ⟨s.toArray⟩ rfl
  have hle := Lib.countB_le ⟨#[32]⟩ (by rw [hsz]; omega) s.length ⟨s.toArray⟩ (Nat.le_refl _)
  have hd := Lib.splitB_data ⟨#[32]⟩ 0 (Lib.countB ⟨s.toArray⟩ ⟨#[32]⟩) ⟨s.toArray⟩
  have hsp : (Lib.splitB ⟨#[32]⟩ 0 (Lib.countB ⟨s.toArray⟩ ⟨#[32]⟩) ⟨s.toArray⟩).map (fun x => x.data.toList) = Lib.split s [32] := hd
  have hcs : (Lib.splitB ⟨#[32]⟩ 0 (Lib.countB ⟨s.toArray⟩ ⟨#[32]⟩) ⟨s.toArray⟩).map Value.string = (Lib.split s [32]).map S := by
    rw [← hsp, List.map_map]
    exact List.map_congr_left fun a _ => by simp [S]
  refine ⟨_, rfl, ?_, Nat.le_add_left _ _, Nat.succ_le_succ hle, (Ext.refl _).alloc _⟩
  rw [hcs]
  have := Sl.new w ((Lib.split s [32]).map S) 9
  have hl2 : ((Lib.split s [32]).map S).length = Lib.countB ⟨s.toArray⟩ ⟨#[32]⟩ + 1 := by rw [← hcs, List.length_map, hlen]
  rw [hl2] at this
  exact this
theorem listed_any (A : Option Addr) (n c : Nat) (ws : List (List UInt8)) (w : World) (h : Sl w A n (ws.map S)) (hn : n ≤ 100) (hc : n ≤ c) (hb : ∀ x ∈ ws, x.length ≤ 4) :
    Calls Tryz.prog 65 #[.slice A n c] w fun e w' => e = .returned (S (listedT ws)) ∧ Ext w w' := by
  have hl : ws.length = n := h.len
  by_cases h0 : n = 0
  · subst h0
    have : ws = [] := List.length_eq_zero_iff.1 hl
    subst this
    clear h hl
    go_enter Tryz.func65, Tryz.ntmps65
    go_wp2
    go_ret
    exact ⟨rfl, Ext.refl _⟩
  · obtain ⟨bk, o, x, rfl, -, -⟩ := h.at_ (k := 0) (by omega)
    have hcells : ∀ (j : Nat) x, (ws.map bytesOf)[j]? = some x → w.cell? ⟨bk, o + j, none⟩ = some (.string x) := fun j x hx => by
      rw [List.getElem?_map] at hx
      cases hy : ws[j]? with
      | none => rw [hy] at hx; cases hx
      | some y =>
        rw [hy] at hx
        obtain ⟨b', o', e, hcl⟩ := h.2 j (S y) (by rw [List.getElem?_map, hy]; rfl)
        injection e with e; injection e with e1 e2; subst e1; subst e2
        rw [hcl, ← Option.some.inj hx]; rfl
    have hbk : bk < w.heap.size := lt_of_cell (hcells 0 _ (by rw [List.getElem?_map, List.getElem?_eq_getElem (by omega)]; rfl))
    have hj := Tryz.strings_Join bk o c (ws.map bytesOf) ⟨#[32]⟩ w hcells hbk (by rw [List.length_map]; omega) (by rw [List.length_map]; omega) (by
      rw [bytes_list]
      have := intercalate_le 32 4 ws hb
      show ([32].intercalate ws).length ≤ _
      omega)
    rw [bytes_list, List.length_map, hl] at hj
    have HJ := Lib.hid hj
    have hz : (n == 0) = false := by simpa using h0
    have hw : listedT ws = [32].intercalate ws := by unfold listedT; rw [if_neg (fun e => h0 (by rw [← hl, e]; rfl))]
    have HW := Lib.hid hw
    clear h hl hcells hbk hj h0 hw
    go_enter Tryz.func65, Tryz.ntmps65
    go_wp2_with fail
    refine HJ.out.mono ?_; rintro e w' ⟨rfl, hx⟩
    go_wp2
    go_ret
    exact ⟨by rw [HW.out]; rfl, hx⟩
set_option maxHeartbeats 4000000 in
theorem drest_any (D : Nat) (WA : Option Addr) (n wc : Nat) (waits : List Bool) (w : World) (hcell : w.cell? ⟨D, 2, none⟩ = some (.slice WA n wc)) (h : Sl w WA n (waits.map Bv)) (hn : n ≤ 14) :
    Calls Tryz.prog 39 #[.pointer (some ⟨D, 0, none⟩)] w fun e w' => e = .returned (S (listedT (waitW waits 0))) ∧ Ext w w' := by
  have hl : waits.length = n := h.len
  have H := Lib.hid h; have HL := Lib.hid hl
  clear h hl
  go_enter Tryz.func39, Tryz.ntmps39
  go_wp2_with fail
  go_loopw [3, 12] (fun v i wr => ∃ (k : Nat) (ws : List (List UInt8)), k ≤ n ∧ i = .int .i64 k ∧ Ext w wr ∧ ws.length ≤ k ∧ (∀ x ∈ ws, x.length ≤ 4) ∧ wr.ownsRow w.heap.size 9 1 v ws.length (ws.map S) ∧ ws ++ waitW (waits.drop k) k = waitW waits 0) (fun _ i _ => n - (intOf i).toNat)
  case atStart => exact ⟨0, [], Nat.zero_le _, rfl, Ext.refl _, Nat.zero_le _, by simp, World.ownsRow_nil _ _ _ _, rfl⟩
  case round =>
    obtain ⟨k, ws, hk, rfl, hext, hwl, hwb, hown, hM⟩ := hrel
    by_cases hlt : k < n
    · obtain ⟨b, off, x, rfl, hc0, hx⟩ := H.out.at_ hlt
      have hc := hext.keeps _ _ hc0
      obtain ⟨hkl, hxe⟩ := List.getElem?_eq_some_iff.1 hx
      have hd : waits.drop k = x :: waits.drop (k + 1) := by rw [List.drop_eq_getElem_cons hkl, hxe]
      rw [hd, waitW] at hM
      have HM := Lib.hid hM; have HO := Lib.hid hown; have HWB := Lib.hid hwb; have HE := Lib.hid hext
      clear hM hown hd hx hc0 hwb hkl hxe hext
      cases x
      · go_wp2_with fail
        go_roundw
        case rel => exact ⟨k + 1, ws, by omega, by go_num, HE.out, by omega, HWB.out, HO.out, by simpa using HM.out⟩
        case measure => simp [intOf]; omega
      · go_wp2_with fail
        refine (itoa_any k (by omega) wr).mono ?_; rintro e w1 ⟨rfl, rfl⟩
        go_wp2_with (at_builtin; refine wpList_push rfl (.tmp 18) (.tmp 21) 58 9 rfl tab_str Tryz.underlying58 rfl (by omega) w wr HE.out _ ws.length _ rfl HO.out [S (digD k)] rfl rfl rfl (by simp [Value.oneCell']) (by unfold maxLen; omega) (by omega) ?_; intro v' w2 hown2 hx3 _)
        go_roundw
        case rel => exact ⟨k + 1, ws ++ [digD k], by omega, by go_num, hx3, by simp; omega, fun x hx => by
          rcases List.mem_append.1 hx with h | h
          · exact HWB.out x h
          · simp at h; subst h; unfold digD; split <;> simp, by simpa using hown2, by simpa using HM.out⟩
        case measure => simp [intOf]; omega
    · have hkn : k = n := by omega
      subst hkn
      have hws : ws = waitW waits 0 := by
        rw [List.drop_eq_nil_of_le (by have := HL.out; omega)] at hM
        simpa [waitW] using hM
      obtain ⟨A, c, rfl, h1, h2, hs⟩ := own_sl hown
      have hlist := listed_any A ws.length c ws wr hs (by omega) h1 hwb
      rw [hws] at hlist ⊢
      have HLI := Lib.hid hlist; have HE := Lib.hid hext
      clear hM hown hlist hs h1 h2 hwb hwl hws hext
      go_wp2_with fail
      refine HLI.out.mono ?_; rintro e w1 ⟨rfl, hx⟩
      go_wp2
      go_ret
      exact ⟨rfl, HE.out.trans hx⟩
end Go.Proofs.YtgohhcnmkomafaaGreatDoor
/- Who is needed, in plain Lean: the work list and the rounds tell the same. No program in sight. -/
namespace Go.Proofs.YtgohhcnmkomafaaGreatDoor
set_option linter.unusedVariables false
set_option linter.unusedSimpArgs false
def argsI (gs : List GateM) (k : Int) : List Int := (gs[k.toNat]?.map (·.args)).getD []
def onI (o : List Bool) (k : Int) : Bool := o[k.toNat]?.getD false
def markM (o : List Bool) (l : List Int) : List Bool := l.foldl (fun o a => o.set a.toNat true) o
def roundFrom : List GateM → Nat → List Bool → List Bool
  | [], _, o => o
  | g :: l, k, o => roundFrom l (k + 1) (if onI o k then markM o g.args else o)
def roundM (gs : List GateM) (o : List Bool) : List Bool := roundFrom gs 0 o
def roundsM (gs : List GateM) : Nat → List Bool → List Bool
  | 0, o => o
  | n + 1, o => roundsM gs n (roundM gs o)
def needsM (gs : List GateM) (l : List Int) : List Bool := roundsM gs gs.length (markM (List.replicate gs.length false) l)
def inR (n : Nat) (l : List Int) : Prop := ∀ k ∈ l, 0 ≤ k ∧ k < n
def okArgs (gs : List GateM) : Prop := ∀ g ∈ gs, inR gs.length g.args
inductive NReach (gs : List GateM) (l : List Int) : Int → Prop
  | base {k : Int} : k ∈ l → NReach gs l k
  | step {k a : Int} : NReach gs l k → a ∈ argsI gs k → NReach gs l a
theorem argsI_mem {gs : List GateM} {k a : Int} (h : a ∈ argsI gs k) : ∃ g, gs[k.toNat]? = some g ∧ a ∈ g.args := by
  unfold argsI at h
  cases e : gs[k.toNat]? with
  | none => simp [e] at h
  | some g => exact ⟨g, rfl, by simpa [e] using h⟩
theorem argsI_range {gs : List GateM} (h : okArgs gs) {k a : Int} (ha : a ∈ argsI gs k) : 0 ≤ a ∧ a < gs.length := by
  obtain ⟨g, hg, hm⟩ := argsI_mem ha
  exact h g (List.mem_of_getElem? hg) a hm
theorem reach_range {gs : List GateM} (h : okArgs gs) {l : List Int} (hl : inR gs.length l) {k : Int} (r : NReach gs l k) : 0 ≤ k ∧ k < gs.length := by
  cases r with
  | base hk => exact hl _ hk
  | step _ ha => exact argsI_range h ha
/-! lists of flags -/
theorem onI_set (o : List Bool) (a k : Int) (h0 : 0 ≤ a) (h1 : a < o.length) (k0 : 0 ≤ k) : onI (o.set a.toNat true) k = (onI o k || decide (k = a)) := by
  unfold onI
  rw [List.getElem?_set]
  by_cases e : k = a
  · subst e; rw [if_pos rfl, if_pos (by omega)]; simp
  · have : ¬ a.toNat = k.toNat := by omega
    simp [this, e]
theorem markM_length (l : List Int) : ∀ o : List Bool, (markM o l).length = o.length := by
  induction l with
  | nil => intro o; rfl
  | cons a l ih => intro o; simp only [markM, List.foldl_cons] at *; rw [ih]; simp
theorem onI_mark (l : List Int) (k : Int) (k0 : 0 ≤ k) : ∀ o : List Bool, inR o.length l → (onI (markM o l) k = true ↔ onI o k = true ∨ k ∈ l) := by
  induction l with
  | nil => intro o _; simp [markM]
  | cons a l ih =>
    intro o h
    have ha := h a (by simp)
    have h2 := ih (o.set a.toNat true) (fun x hx => by simpa using h x (by simp [hx]))
    simp only [markM, List.foldl_cons] at h2 ⊢
    rw [h2, onI_set o a k ha.1 ha.2 k0]
    simp only [Bool.or_eq_true, decide_eq_true_eq, List.mem_cons]
    constructor
    · rintro ((h | h) | h)
      · exact .inl h
      · exact .inr (.inl h)
      · exact .inr (.inr h)
    · rintro (h | h | h)
      · exact .inl (.inl h)
      · exact .inl (.inr h)
      · exact .inr h
theorem flags_ext {a b : List Bool} (hl : a.length = b.length) (h : ∀ k : Nat, k < a.length → onI a k = onI b k) : a = b := by
  apply List.ext_getElem hl
  intro i h1 h2
  have := h i h1
  simpa [onI, List.getElem?_eq_getElem h1, List.getElem?_eq_getElem h2] using this
/-- What is needed: closed, and nothing else than is reached. -/
structure Least (gs : List GateM) (l : List Int) (o : List Bool) : Prop where
  len : o.length = gs.length
  sound : ∀ k : Int, 0 ≤ k → onI o k = true → NReach gs l k
  all : ∀ k ∈ l, onI o k = true
  closed : ∀ k : Int, 0 ≤ k → onI o k = true → ∀ a ∈ argsI gs k, onI o a = true
theorem Least.iff {gs : List GateM} {l : List Int} {o : List Bool} (h : Least gs l o) (ok : okArgs gs) (hl : inR gs.length l) {k : Int} (h0 : 0 ≤ k) : onI o k = true ↔ NReach gs l k := by
  refine ⟨h.sound k h0, fun r => ?_⟩
  induction r with
  | base hk => exact h.all _ hk
  | step r ha ih => exact h.closed _ (reach_range ok hl r).1 (ih (reach_range ok hl r).1) _ ha
theorem Least.uniq {gs : List GateM} {l : List Int} {a b : List Bool} (h : Least gs l a) (k : Least gs l b) (ok : okArgs gs) (hl : inR gs.length l) : a = b := by
  refine flags_ext (by rw [h.len, k.len]) fun i _ => ?_
  rw [Bool.eq_iff_iff, h.iff ok hl (by omega), k.iff ok hl (by omega)]
/-! the rounds -/
def subB : List Bool → List Bool → Bool
  | [], [] => true
  | x :: a, y :: b => (!x || y) && subB a b
  | _, _ => false
theorem subB_refl (a : List Bool) : subB a a = true := by
  induction a with
  | nil => rfl
  | cons x a ih => cases x <;> simp [subB, ih]
theorem subB_trans : ∀ {a b c : List Bool}, subB a b = true → subB b c = true → subB a c = true
  | [], [], [], _, _ => rfl
  | [], [], z :: c, _, h => by simp [subB] at h
  | [], y :: b, _, h, _ => by simp [subB] at h
  | x :: a, [], _, h, _ => by simp [subB] at h
  | x :: a, y :: b, [], _, h => by simp [subB] at h
  | x :: a, y :: b, z :: c, h, k => by
    simp only [subB, Bool.and_eq_true] at *
    exact ⟨by cases x <;> cases y <;> cases z <;> simp_all, subB_trans h.2 k.2⟩
theorem subB_anti : ∀ {a b : List Bool}, subB a b = true → subB b a = true → a = b
  | [], [], _, _ => rfl
  | [], y :: b, h, _ => by simp [subB] at h
  | x :: a, [], h, _ => by simp [subB] at h
  | x :: a, y :: b, h, k => by
    simp only [subB, Bool.and_eq_true] at *
    rw [subB_anti h.2 k.2]; cases x <;> cases y <;> simp_all
theorem subB_set : ∀ (o : List Bool) (k : Nat), subB o (o.set k true) = true
  | [], _ => rfl
  | x :: o, 0 => by simp [subB, subB_refl]
  | x :: o, k + 1 => by simp [subB, subB_set o k]
theorem subB_mark (l : List Int) : ∀ o : List Bool, subB o (markM o l) = true := by
  induction l with
  | nil => intro o; exact subB_refl o
  | cons a l ih => intro o; exact subB_trans (subB_set o _) (ih _)
theorem subB_len : ∀ {a b : List Bool}, subB a b = true → a.length = b.length
  | [], [], _ => rfl
  | [], y :: b, h => by simp [subB] at h
  | x :: a, [], h => by simp [subB] at h
  | x :: a, y :: b, h => by simp only [subB, Bool.and_eq_true] at h; simp [subB_len h.2]
theorem subB_at : ∀ {a b : List Bool} (k : Nat), subB a b = true → a[k]?.getD false = true → b[k]?.getD false = true
  | [], _, k, _, h => by simp at h
  | x :: a, [], _, h, _ => by simp [subB] at h
  | x :: a, y :: b, 0, h, k => by simp only [subB, Bool.and_eq_true] at h; simp_all
  | x :: a, y :: b, n + 1, h, k => by simp only [subB, Bool.and_eq_true] at h; simpa using subB_at n h.2 (by simpa using k)
def cnt (o : List Bool) : Nat := o.countP id
theorem cnt_le : ∀ {a b : List Bool}, subB a b = true → cnt a ≤ cnt b ∧ (cnt a = cnt b → a = b)
  | [], [], _ => ⟨Nat.le_refl _, fun _ => rfl⟩
  | [], y :: b, h => by simp [subB] at h
  | x :: a, [], h => by simp [subB] at h
  | x :: a, y :: b, h => by
    simp only [subB, Bool.and_eq_true] at h
    obtain ⟨h1, h2⟩ := cnt_le h.2
    unfold cnt at *
    cases x <;> cases y <;> simp_all <;> omega
theorem cnt_max (o : List Bool) : cnt o ≤ o.length := List.countP_le_length
theorem roundFrom_sub (l : List GateM) : ∀ (k : Nat) (o : List Bool), subB o (roundFrom l k o) = true := by
  induction l with
  | nil => intro k o; exact subB_refl o
  | cons g l ih =>
    intro k o
    simp only [roundFrom]
    split
    · exact subB_trans (subB_mark _ _) (ih _ _)
    · exact ih _ _
theorem roundFrom_sound {gs : List GateM} {q : List Int} (ok : okArgs gs) (hq : inR gs.length q) (l : List GateM) : ∀ (k : Nat) (o : List Bool), gs.drop k = l → o.length = gs.length → (∀ i : Int, 0 ≤ i → onI o i = true → NReach gs q i) →
    ∀ i : Int, 0 ≤ i → onI (roundFrom l k o) i = true → NReach gs q i := by
  induction l with
  | nil => intro k o _ _ h; exact h
  | cons g l ih =>
    intro k o hd ho h i hi hon
    simp only [roundFrom] at hon
    have hk : gs[k]? = some g := by
      have : (gs.drop k)[0]? = some g := by rw [hd]; rfl
      simpa using this
    have hd' : gs.drop (k + 1) = l := by rw [← List.drop_drop, hd]; rfl
    split at hon
    · rename_i hk2
      refine ih (k + 1) _ hd' (by rw [markM_length, ho]) (fun j hj hj2 => ?_) i hi hon
      have hr : inR o.length g.args := by rw [ho]; exact ok g (List.mem_of_getElem? hk)
      rcases (onI_mark g.args j hj o hr).1 hj2 with e | e
      · exact h j hj e
      · exact .step (h k (by omega) hk2) (by simp [argsI, hk, e])
    · exact ih (k + 1) o hd' ho h i hi hon
theorem roundFrom_fix {gs : List GateM} (ok : okArgs gs) (l : List GateM) : ∀ (k : Nat) (o : List Bool), gs.drop k = l → o.length = gs.length → subB (roundFrom l k o) o = true →
    ∀ (j : Nat) (g : GateM), l[j]? = some g → onI o ((k + j : Nat) : Int) = true → ∀ a ∈ g.args, onI o a = true := by
  induction l with
  | nil => intro k o _ _ _ j g h; simp at h
  | cons g l ih =>
    intro k o hd ho h j x hj hon a ha
    have hk : gs[k]? = some g := by
      have : (gs.drop k)[0]? = some g := by rw [hd]; rfl
      simpa using this
    have hd' : gs.drop (k + 1) = l := by rw [← List.drop_drop, hd]; rfl
    simp only [roundFrom] at h
    generalize hb : onI o k = b at h
    cases b
    · simp only [Bool.false_eq_true, if_false] at h
      cases j with
      | zero => simp at hon; rw [hon] at hb; cases hb
      | succ j => exact ih (k + 1) o hd' ho h j x (by simpa using hj) (by rw [show k + 1 + j = k + (j + 1) from by omega]; exact hon) a ha
    · simp only [if_true] at h
      have hm : markM o g.args = o := subB_anti (subB_trans (roundFrom_sub l (k + 1) _) h) (subB_mark _ _)
      rw [hm] at h
      cases j with
      | zero =>
        simp at hj; subst hj
        have hr : inR o.length g.args := by rw [ho]; exact ok g (List.mem_of_getElem? hk)
        have := (onI_mark g.args a (hr a ha).1 o hr).2 (.inr ha)
        rwa [hm] at this
      | succ j => exact ih (k + 1) o hd' ho h j x (by simpa using hj) (by rw [show k + 1 + j = k + (j + 1) from by omega]; exact hon) a ha
theorem roundM_len (gs : List GateM) (o : List Bool) : (roundM gs o).length = o.length := (subB_len (roundFrom_sub gs 0 o)).symm
theorem roundsM_fixed (gs : List GateM) (n : Nat) : ∀ o, roundM gs o = o → roundsM gs n o = o := by
  induction n with
  | zero => intro o _; rfl
  | succ n ih => intro o h; simp only [roundsM, h]; exact ih o h
theorem roundsM_fix (gs : List GateM) (n : Nat) : ∀ o : List Bool, o.length - cnt o ≤ n → roundM gs (roundsM gs n o) = roundsM gs n o := by
  induction n with
  | zero =>
    intro o h
    simp only [roundsM]
    have h1 := cnt_le (roundFrom_sub gs 0 o)
    have h2 := cnt_max (roundFrom gs 0 o)
    have h3 := cnt_max o
    have h4 := roundM_len gs o
    unfold roundM at *
    exact (h1.2 (by omega)).symm
  | succ n ih =>
    intro o h
    by_cases e : roundM gs o = o
    · rw [roundsM_fixed gs (n + 1) o e]; exact e
    · simp only [roundsM]
      refine ih _ ?_
      have h1 := cnt_le (roundFrom_sub gs 0 o)
      have h4 := roundM_len gs o
      have : cnt o ≠ cnt (roundM gs o) := fun hc => e (h1.2 hc).symm
      unfold roundM at *
      omega
theorem roundsM_len (gs : List GateM) (n : Nat) : ∀ o, (roundsM gs n o).length = o.length := by
  induction n with
  | zero => intro o; rfl
  | succ n ih => intro o; simp only [roundsM]; rw [ih, roundM_len]
theorem roundsM_sub (gs : List GateM) (n : Nat) : ∀ o, subB o (roundsM gs n o) = true := by
  induction n with
  | zero => intro o; exact subB_refl o
  | succ n ih => intro o; exact subB_trans (roundFrom_sub gs 0 o) (ih _)
theorem roundsM_sound {gs : List GateM} {q : List Int} (ok : okArgs gs) (hq : inR gs.length q) (n : Nat) : ∀ o : List Bool, o.length = gs.length → (∀ i : Int, 0 ≤ i → onI o i = true → NReach gs q i) →
    ∀ i : Int, 0 ≤ i → onI (roundsM gs n o) i = true → NReach gs q i := by
  induction n with
  | zero => intro o _ h; exact h
  | succ n ih => intro o ho h; exact ih _ (by rw [roundM_len, ho]) (roundFrom_sound ok hq gs 0 o rfl ho h)
theorem onI_none (n : Nat) (k : Int) : onI (List.replicate n false) k = false := by
  unfold onI; rw [List.getElem?_replicate]; split <;> rfl
theorem needsM_len (gs : List GateM) (l : List Int) : (needsM gs l).length = gs.length := by simp [needsM, roundsM_len, markM_length]
theorem needsM_least {gs : List GateM} {l : List Int} (ok : okArgs gs) (hl : inR gs.length l) : Least gs l (needsM gs l) := by
  have hr : inR (List.replicate gs.length false).length l := by simpa using hl
  have h0 : ∀ k : Int, 0 ≤ k → (onI (markM (List.replicate gs.length false) l) k = true ↔ k ∈ l) := fun k k0 => by
    rw [onI_mark l k k0 _ hr, onI_none]; simp
  refine ⟨needsM_len _ _, fun k k0 h => ?_, fun k hk => ?_, fun k k0 h a ha => ?_⟩
  · exact roundsM_sound ok hl _ _ (by simp [markM_length]) (fun i i0 h => .base ((h0 i i0).1 h)) k k0 h
  · exact subB_at k.toNat (roundsM_sub gs _ _) ((h0 k (hl k hk).1).2 hk)
  · obtain ⟨g, hg, hm⟩ := argsI_mem ha
    have hf := roundsM_fix gs gs.length (markM (List.replicate gs.length false) l) (by simp [markM_length])
    refine roundFrom_fix ok gs 0 _ rfl (needsM_len gs l) (by rw [show roundFrom gs 0 (needsM gs l) = needsM gs l from hf]; exact subB_refl _) k.toNat g hg ?_ a hm
    have : ((0 + k.toNat : Nat) : Int) = k := by omega
    rw [this]; exact h
/-! the work list -/
structure NeedInv (gs : List GateM) (l : List Int) (o : List Bool) (work : List Int) : Prop where
  len : o.length = gs.length
  sound : ∀ k : Int, 0 ≤ k → onI o k = true → NReach gs l k
  ws : ∀ k ∈ work, NReach gs l k
  all : ∀ k ∈ l, onI o k = true ∨ k ∈ work
  closed : ∀ k : Int, 0 ≤ k → onI o k = true → ∀ a ∈ argsI gs k, onI o a = true ∨ a ∈ work
theorem NeedInv.start (gs : List GateM) (l : List Int) : NeedInv gs l (List.replicate gs.length false) l :=
  ⟨by simp, fun k _ h => absurd h (by rw [onI_none]; decide), fun k h => .base h, fun k h => .inr h, fun k _ h => absurd h (by rw [onI_none]; decide)⟩
theorem NeedInv.done {gs : List GateM} {l : List Int} {o : List Bool} (h : NeedInv gs l o []) (ok : okArgs gs) (hl : inR gs.length l) : o = needsM gs l := by
  refine Least.uniq (gs := gs) (l := l) ⟨h.len, h.sound, fun k hk => ?_, fun k k0 hk a ha => ?_⟩ (needsM_least ok hl) ok hl
  · rcases h.all k hk with e | e
    · exact e
    · cases e
  · rcases h.closed k k0 hk a ha with e | e
    · exact e
    · cases e
theorem NeedInv.skip {gs : List GateM} {l : List Int} {o : List Bool} {work : List Int} {k : Int} (h : NeedInv gs l o (work ++ [k])) (hk : onI o k = true) : NeedInv gs l o work :=
  ⟨h.len, h.sound, fun j hj => h.ws j (by simp [hj]), fun j hj => by
    rcases h.all j hj with e | e
    · exact .inl e
    · rcases List.mem_append.1 e with e | e
      · exact .inr e
      · simp at e; subst e; exact .inl hk, fun j j0 hj a ha => by
    rcases h.closed j j0 hj a ha with e | e
    · exact .inl e
    · rcases List.mem_append.1 e with e | e
      · exact .inr e
      · simp at e; subst e; exact .inl hk⟩
theorem NeedInv.range {gs : List GateM} {l : List Int} {o : List Bool} {work : List Int} {k : Int} (h : NeedInv gs l o (work ++ [k])) (ok : okArgs gs) (hl : inR gs.length l) : 0 ≤ k ∧ k < gs.length :=
  reach_range ok hl (h.ws k (by simp))
/-! the law NetTrue -/
end Go.Proofs.YtgohhcnmkomafaaGreatDoor
/- What is settled, in plain Lean: rounds and the work list tell the same, the least that solves. No program in sight. -/
namespace Go.Proofs.YtgohhcnmkomafaaGreatDoor
set_option linter.unusedVariables false
set_option linter.unusedSimpArgs false
def valI (v : List Int) (k : Int) : Int := v[k.toNat]?.getD 0
def worthM (regs ins v : List Int) (g : GateM) : Int :=
  if g.kind = 0 then 0 else if g.kind = 1 then 1 else if g.kind = 2 then valI ins g.num else if g.kind = 3 then valI regs g.num
  else ofM g.kind (g.args.map (valI v))
def nextV (gs : List GateM) (regs ins v : List Int) : List Int := gs.map (worthM regs ins v)
def itV (gs : List GateM) (regs ins : List Int) : Nat → List Int → List Int
  | 0, v => v
  | n + 1, v => itV gs regs ins n (nextV gs regs ins v)
def opensM (n : Nat) : List Int := List.replicate n 2
def settledM (gs : List GateM) (regs ins : List Int) : List Int := itV gs regs ins gs.length (opensM gs.length)
def goodL (l : List Int) : Prop := ∀ x ∈ l, x = 0 ∨ x = 1 ∨ x = 2
def leI (x y : Int) : Prop := x = 2 ∨ x = y
theorem leI.refl (x : Int) : leI x x := .inr rfl
theorem leI.trans {x y z : Int} (h : leI x y) (k : leI y z) : leI x z := by
  rcases h with h | rfl
  · exact .inl h
  · exact k
theorem leI.anti {x y : Int} (h : leI x y) (k : leI y x) : x = y := by
  rcases h with rfl | h
  · rcases k with h | h <;> omega
  · exact h
/-! leqM: as lists -/
theorem leqM_refl (a : List Int) : leqM a a = true := by
  induction a with
  | nil => rfl
  | cons x a ih => simp [leqM, ih]
theorem leqM_iff : ∀ {a b : List Int}, a.length = b.length → (leqM a b = true ↔ ∀ k : Nat, k < a.length → leI (a[k]?.getD 0) (b[k]?.getD 0))
  | [], [], _ => by simp [leqM]
  | [], y :: b, h => by simp at h
  | x :: a, [], h => by simp at h
  | x :: a, y :: b, h => by
    have ih := leqM_iff (a := a) (b := b) (by simpa using h)
    simp only [leqM, Bool.and_eq_true, Bool.or_eq_true, decide_eq_true_eq, ih]
    constructor
    · rintro ⟨h1, h2⟩ k hk
      cases k with
      | zero => simpa [leI] using h1
      | succ k => simpa using h2 k (by simpa using hk)
    · intro h2
      exact ⟨by simpa [leI] using h2 0 (by simp), fun k hk => by simpa using h2 (k + 1) (by simpa using hk)⟩
theorem leqM_val {a b : List Int} (hl : a.length = b.length) (h : leqM a b = true) (k : Int) : leI (valI a k) (valI b k) := by
  unfold valI
  rcases Nat.lt_or_ge k.toNat a.length with e | e
  · exact (leqM_iff hl).1 h _ e
  · rw [List.getElem?_eq_none e, List.getElem?_eq_none (by omega)]; exact leI.refl _
theorem leqM_of_val {a b : List Int} (hl : a.length = b.length) (h : ∀ k : Nat, k < a.length → leI (valI a k) (valI b k)) : leqM a b = true :=
  (leqM_iff hl).2 fun k hk => by have := h k hk; simpa [valI] using this
theorem val_ext {a b : List Int} (hl : a.length = b.length) (h : ∀ k : Nat, k < a.length → valI a k = valI b k) : a = b := by
  apply List.ext_getElem hl
  intro i h1 h2
  have := h i h1
  simpa [valI, List.getElem?_eq_getElem h1, List.getElem?_eq_getElem h2] using this
theorem leqM_anti {a b : List Int} (hl : a.length = b.length) (h : leqM a b = true) (k : leqM b a = true) : a = b :=
  val_ext hl fun i _ => (leqM_val hl h i).anti (leqM_val hl.symm k i)
theorem leqM_opens (v : List Int) : leqM (opensM v.length) v = true := by
  refine leqM_of_val (by simp [opensM]) fun k hk => ?_
  left; simp only [opensM, List.length_replicate] at hk
  simp [valI, opensM, hk]
/-! gates -/
theorem leqM_map {v u : List Int} (hl : v.length = u.length) (h : leqM v u = true) (l : List Int) : leqM (l.map (valI v)) (l.map (valI u)) = true := by
  induction l with
  | nil => rfl
  | cons a l ih =>
    simp only [List.map_cons, leqM, ih, Bool.and_true, Bool.or_eq_true, decide_eq_true_eq]
    exact leqM_val hl h a
theorem worth_mono {regs regs' ins ins' v u : List Int} (hr : regs.length = regs'.length) (hi : ins.length = ins'.length) (hl : v.length = u.length)
    (h1 : leqM regs regs' = true) (h2 : leqM ins ins' = true) (h : leqM v u = true) (g : GateM) : leI (worthM regs ins v g) (worthM regs' ins' u g) := by
  unfold worthM
  split
  · exact leI.refl _
  split
  · exact leI.refl _
  split
  · exact leqM_val hi h2 _
  split
  · exact leqM_val hr h1 _
  have hm := leqM_map hl h g.args
  by_cases k4 : g.kind = 4
  · exact leq_of _ (.inl k4) _ _ (by simp) hm
  by_cases k5 : g.kind = 5
  · exact leq_of _ (.inr k5) _ _ (by simp) hm
  simp only [ofM, if_neg k4, if_neg k5]
  cases hg : g.args with
  | nil => exact leI.refl _
  | cons a l =>
    simp only [List.map_cons, List.headD_cons]
    rcases leqM_val hl h a with e | e
    · left; rw [e]; rfl
    · right; rw [e]
theorem next_len (gs : List GateM) (regs ins v : List Int) : (nextV gs regs ins v).length = gs.length := by simp [nextV]
theorem next_val {gs : List GateM} {regs ins v : List Int} {k : Nat} {g : GateM} (h : gs[k]? = some g) : valI (nextV gs regs ins v) k = worthM regs ins v g := by
  simp [valI, nextV, h]
theorem next_mono {gs : List GateM} {regs regs' ins ins' v u : List Int} (hr : regs.length = regs'.length) (hi : ins.length = ins'.length) (hl : v.length = u.length)
    (h1 : leqM regs regs' = true) (h2 : leqM ins ins' = true) (h : leqM v u = true) : leqM (nextV gs regs ins v) (nextV gs regs' ins' u) = true := by
  refine leqM_of_val (by simp [next_len]) fun k hk => ?_
  rw [next_len] at hk
  rw [next_val (List.getElem?_eq_getElem hk), next_val (List.getElem?_eq_getElem hk)]
  exact worth_mono hr hi hl h1 h2 h _
theorem valI_good {v : List Int} (h : goodL v) (k : Int) : valI v k = 0 ∨ valI v k = 1 ∨ valI v k = 2 := by
  unfold valI
  cases e : v[k.toNat]? with
  | none => left; rfl
  | some x => exact h x (List.mem_of_getElem? e)
theorem ofM_good {l : List Int} (hk : goodL l) (k : Int) : ofM k l = 0 ∨ ofM k l = 1 ∨ ofM k l = 2 := by
  unfold ofM
  split
  · rw [gatherM_eq 0 (by decide)]; repeat' split
    all_goals simp
  split
  · rw [gatherM_eq 1 (by decide)]; repeat' split
    all_goals simp
  · exact good3 (notM_good _)
theorem worth_good {regs ins v : List Int} (hr : goodL regs) (hi : goodL ins) (hv : goodL v) (g : GateM) : worthM regs ins v g = 0 ∨ worthM regs ins v g = 1 ∨ worthM regs ins v g = 2 := by
  unfold worthM
  split
  · simp
  split
  · simp
  split
  · exact valI_good hi _
  split
  · exact valI_good hr _
  refine ofM_good (fun x hx => ?_) _
  obtain ⟨a, _, rfl⟩ := List.mem_map.1 hx
  exact valI_good hv a
/-! the least that solves -/
structure LeastV (gs : List GateM) (regs ins v : List Int) : Prop where
  len : v.length = gs.length
  fix : nextV gs regs ins v = v
  least : ∀ u : List Int, u.length = gs.length → nextV gs regs ins u = u → leqM v u = true
theorem LeastV.uniq {gs : List GateM} {regs ins v u : List Int} (h : LeastV gs regs ins v) (k : LeastV gs regs ins u) : v = u :=
  leqM_anti (by rw [h.len, k.len]) (h.least u k.len k.fix) (k.least v h.len h.fix)
def cntV (v : List Int) : Nat := v.countP (fun x => !decide (x = 2))
theorem cntV_le : ∀ {a b : List Int}, a.length = b.length → leqM a b = true → cntV a ≤ cntV b ∧ (cntV a = cntV b → a = b)
  | [], [], _, _ => ⟨Nat.le_refl _, fun _ => rfl⟩
  | [], y :: b, h, _ => by simp at h
  | x :: a, [], h, _ => by simp at h
  | x :: a, y :: b, h, k => by
    simp only [leqM, Bool.and_eq_true, Bool.or_eq_true, decide_eq_true_eq] at k
    obtain ⟨h1, h2⟩ := cntV_le (a := a) (b := b) (by simpa using h) k.2
    unfold cntV at *
    rcases k.1 with e | e
    · subst e
      by_cases hy : y = 2
      · subst hy; simp_all
      · simp [hy]; constructor <;> omega
    · subst e
      by_cases hx : x = 2
      · subst hx; simp_all
      · simp [hx]; exact ⟨h1, h2⟩
theorem cntV_max (v : List Int) : cntV v ≤ v.length := List.countP_le_length
/-- A state of the rounds: it grows, and says no more than whatever solves. -/
structure RoundV (gs : List GateM) (regs ins v : List Int) : Prop where
  len : v.length = gs.length
  up : leqM v (nextV gs regs ins v) = true
  below : ∀ u : List Int, u.length = gs.length → nextV gs regs ins u = u → leqM v u = true
theorem RoundV.start (gs : List GateM) (regs ins : List Int) : RoundV gs regs ins (opensM gs.length) :=
  ⟨by simp [opensM], by have := leqM_opens (nextV gs regs ins (opensM gs.length)); rwa [next_len] at this, fun u hu _ => by have := leqM_opens u; rwa [hu] at this⟩
theorem RoundV.next {gs : List GateM} {regs ins v : List Int} (h : RoundV gs regs ins v) : RoundV gs regs ins (nextV gs regs ins v) :=
  ⟨next_len _ _ _ _, next_mono rfl rfl (by rw [next_len, h.len]) (leqM_refl _) (leqM_refl _) h.up, fun u hu hf => by
    have := next_mono (gs := gs) (regs := regs) (ins := ins) rfl rfl (by rw [h.len, hu]) (leqM_refl _) (leqM_refl _) (h.below u hu hf)
    rwa [hf] at this⟩
theorem RoundV.more {gs : List GateM} {regs ins v : List Int} (h : RoundV gs regs ins v) (hn : nextV gs regs ins v ≠ v) : cntV v < cntV (nextV gs regs ins v) := by
  have h1 := cntV_le (by rw [next_len, h.len]) h.up
  rcases Nat.lt_or_ge (cntV v) (cntV (nextV gs regs ins v)) with e | e
  · exact e
  · exact absurd (h1.2 (by omega)).symm hn
theorem RoundV.done {gs : List GateM} {regs ins v : List Int} (h : RoundV gs regs ins v) (hf : nextV gs regs ins v = v) : LeastV gs regs ins v := ⟨h.len, hf, h.below⟩
theorem itV_fixed {gs : List GateM} {regs ins : List Int} (n : Nat) : ∀ {v : List Int}, nextV gs regs ins v = v → itV gs regs ins n v = v := by
  induction n with
  | zero => intro v _; rfl
  | succ n ih => intro v h; simp only [itV, h]; exact ih h
theorem itV_least {gs : List GateM} {regs ins : List Int} (n : Nat) : ∀ {v : List Int}, RoundV gs regs ins v → gs.length ≤ n + cntV v → LeastV gs regs ins (itV gs regs ins n v) := by
  induction n with
  | zero =>
    intro v h hn
    refine h.done ?_
    have h1 := cntV_le (by rw [next_len, h.len]) h.up
    have h2 := cntV_max (nextV gs regs ins v)
    rw [next_len] at h2
    exact (h1.2 (by omega)).symm
  | succ n ih =>
    intro v h hn
    by_cases e : nextV gs regs ins v = v
    · rw [itV_fixed _ e]; exact h.done e
    · exact ih h.next (by have := h.more e; omega)
theorem settled_least (gs : List GateM) (regs ins : List Int) : LeastV gs regs ins (settledM gs regs ins) := itV_least _ (RoundV.start gs regs ins) (by omega)
theorem opens_good (n : Nat) : goodL (opensM n) := fun x hx => by rw [opensM, List.mem_replicate] at hx; exact .inr (.inr hx.2)
/-! the users of each gate -/
def addUses (u : List (List Int)) (k : Int) (args : List Int) : List (List Int) := args.foldl (fun u a => u.modify a.toNat (· ++ [k])) u
def usersFrom : List GateM → Nat → List (List Int) → List (List Int)
  | [], _, u => u
  | g :: l, k, u => usersFrom l (k + 1) (addUses u k g.args)
def usersM (gs : List GateM) : List (List Int) := usersFrom gs 0 (List.replicate gs.length [])
def useI (u : List (List Int)) (a : Int) : List Int := u[a.toNat]?.getD []
theorem addUses_len (k : Int) (args : List Int) : ∀ u, (addUses u k args).length = u.length := by
  induction args with
  | nil => intro u; rfl
  | cons a l ih => intro u; simp only [addUses, List.foldl_cons] at *; rw [ih]; simp
theorem useI_modify (u : List (List Int)) (a b k : Int) (ha : 0 ≤ a) (hb : 0 ≤ b) : useI (u.modify a.toNat (· ++ [k])) b = if a = b ∧ a < u.length then useI u b ++ [k] else useI u b := by
  unfold useI
  rw [List.getElem?_modify]
  by_cases e : a = b
  · subst e
    rcases Nat.lt_or_ge a.toNat u.length with h | h
    · rw [List.getElem?_eq_getElem h]; rw [if_pos ⟨rfl, by omega⟩]; simp
    · rw [List.getElem?_eq_none h]; rw [if_neg (by omega)]; simp
  · have : ¬ a.toNat = b.toNat := by omega
    simp [this, e]
theorem mem_addUses (k j b : Int) (hb : 0 ≤ b) (args : List Int) : ∀ u : List (List Int), (∀ a ∈ args, 0 ≤ a ∧ a < u.length) → (j ∈ useI (addUses u k args) b ↔ j ∈ useI u b ∨ (j = k ∧ b ∈ args)) := by
  induction args with
  | nil => intro u _; simp [addUses]
  | cons a l ih =>
    intro u h
    have ha := h a (by simp)
    have h2 := ih (u.modify a.toNat (· ++ [k])) (fun x hx => by simpa using h x (by simp [hx]))
    simp only [addUses, List.foldl_cons] at h2 ⊢
    rw [h2, useI_modify u a b k ha.1 hb]
    by_cases e : a = b
    · subst e; rw [if_pos ⟨rfl, ha.2⟩]; simp only [List.mem_append, List.mem_cons, List.not_mem_nil, or_false]
      constructor
      · rintro ((h | h) | h)
        · exact .inl h
        · exact .inr ⟨h, by simp⟩
        · exact .inr ⟨h.1, by simp⟩
      · rintro (h | h)
        · exact .inl (.inl h)
        · exact .inl (.inr h.1)
    · have e' : ¬ b = a := fun x => e x.symm
      rw [if_neg (fun x => e x.1)]; simp [e']
theorem mem_usersFrom {gs : List GateM} (j b : Int) (hb : 0 ≤ b) (ok : ∀ g ∈ gs, ∀ a ∈ g.args, 0 ≤ a ∧ a < gs.length) (l : List GateM) : ∀ (k : Nat) (u : List (List Int)), gs.drop k = l → u.length = gs.length →
    (j ∈ useI (usersFrom l k u) b ↔ j ∈ useI u b ∨ ∃ (i : Nat) (g : GateM), l[i]? = some g ∧ j = ((k + i : Nat) : Int) ∧ b ∈ g.args) := by
  induction l with
  | nil => intro k u _ _; simp [usersFrom]
  | cons g l ih =>
    intro k u hd hu
    have hk : gs[k]? = some g := by
      have : (gs.drop k)[0]? = some g := by rw [hd]; rfl
      simpa using this
    have hd' : gs.drop (k + 1) = l := by rw [← List.drop_drop, hd]; rfl
    simp only [usersFrom]
    rw [ih (k + 1) _ hd' (by rw [addUses_len, hu]), mem_addUses k j b hb g.args u (by rw [hu]; exact ok g (List.mem_of_getElem? hk))]
    constructor
    · rintro ((h | ⟨rfl, h⟩) | ⟨i, x, h1, h2, h3⟩)
      · exact .inl h
      · exact .inr ⟨0, g, rfl, by simp, h⟩
      · exact .inr ⟨i + 1, x, by simpa using h1, by rw [h2]; omega, h3⟩
    · rintro (h | ⟨i, x, h1, h2, h3⟩)
      · exact .inl (.inl h)
      · cases i with
        | zero => simp at h1; subst h1; exact .inl (.inr ⟨by simpa using h2, h3⟩)
        | succ i => exact .inr ⟨i, x, by simpa using h1, by rw [h2]; omega, h3⟩
theorem mem_users {gs : List GateM} (ok : ∀ g ∈ gs, ∀ a ∈ g.args, 0 ≤ a ∧ a < gs.length) {j b : Int} (hb : 0 ≤ b) :
    j ∈ useI (usersM gs) b ↔ ∃ (i : Nat) (g : GateM), gs[i]? = some g ∧ j = (i : Int) ∧ b ∈ g.args := by
  unfold usersM
  rw [mem_usersFrom j b hb ok gs 0 _ rfl (by simp)]
  have : j ∉ useI (List.replicate gs.length []) b := by unfold useI; rw [List.getElem?_replicate]; split <;> simp
  simp [this]
/-! the work list -/
structure SInv (gs : List GateM) (regs ins v : List Int) (work : List Int) : Prop where
  len : v.length = gs.length
  good : goodL v
  below : ∀ u : List Int, u.length = gs.length → nextV gs regs ins u = u → leqM v u = true
  asc : ∀ (k : Nat) (g : GateM), gs[k]? = some g → valI v k ≠ 2 → worthM regs ins v g = valI v k
  wait : ∀ (k : Nat) (g : GateM), gs[k]? = some g → valI v k = 2 → (k : Int) ∉ work → worthM regs ins v g = 2
  ws : ∀ k ∈ work, 0 ≤ k ∧ k < gs.length
theorem SInv.start (gs : List GateM) (regs ins : List Int) (work : List Int) (hw : ∀ k : Int, k ∈ work ↔ 0 ≤ k ∧ k < gs.length) : SInv gs regs ins (opensM gs.length) work := by
  refine ⟨by simp [opensM], opens_good _, fun u hu _ => by have := leqM_opens u; rwa [hu] at this, fun k g hk h => absurd ?_ h, fun k g hk _ hn => absurd ?_ hn, fun k hk => (hw k).1 hk⟩
  · have : k < gs.length := (List.getElem?_eq_some_iff.1 hk).1
    simp [valI, opensM, this]
  · have : k < gs.length := (List.getElem?_eq_some_iff.1 hk).1
    exact (hw k).2 (by omega)
theorem SInv.done {gs : List GateM} {regs ins v : List Int} (h : SInv gs regs ins v []) : v = settledM gs regs ins := by
  have hf : nextV gs regs ins v = v := by
    refine val_ext (by rw [next_len, h.len]) fun k hk => ?_
    rw [next_len] at hk
    rw [next_val (List.getElem?_eq_getElem hk)]
    by_cases e : valI v k = 2
    · rw [h.wait k _ (List.getElem?_eq_getElem hk) e (by simp), e]
    · exact h.asc k _ (List.getElem?_eq_getElem hk) e
  exact LeastV.uniq ⟨h.len, hf, h.below⟩ (settled_least _ _ _)
theorem SInv.skip {gs : List GateM} {regs ins v : List Int} {k : Int} {work : List Int} (h : SInv gs regs ins v (k :: work)) (hk : valI v k ≠ 2) : SInv gs regs ins v work :=
  ⟨h.len, h.good, h.below, h.asc, fun j g hj he hn => h.wait j g hj he (fun e => by
    rcases List.mem_cons.1 e with e | e
    · rw [e] at he; exact hk he
    · exact hn e), fun j hj => h.ws j (by simp [hj])⟩
theorem SInv.none {gs : List GateM} {regs ins v : List Int} {k : Int} {work : List Int} {g : GateM} (h : SInv gs regs ins v (k :: work)) (hg : gs[k.toNat]? = some g) (hx : worthM regs ins v g = 2) : SInv gs regs ins v work :=
  ⟨h.len, h.good, h.below, h.asc, fun j g' hj he hn => by
    have h0 := (h.ws k (by simp)).1
    by_cases e : (j : Int) = k
    · have : k.toNat = j := by omega
      rw [this, hj] at hg; injection hg with hg; rw [hg]; exact hx
    · exact h.wait j g' hj he (fun x => by
        rcases List.mem_cons.1 x with x | x
        · exact e x
        · exact hn x), fun j hj => h.ws j (by simp [hj])⟩
theorem valI_set (v : List Int) (k : Int) (x : Int) (j : Nat) (h0 : 0 ≤ k) (h1 : k < v.length) : valI (v.set k.toNat x) j = if (j : Int) = k then x else valI v j := by
  unfold valI
  simp only [Int.toNat_natCast]
  rw [List.getElem?_set]
  by_cases e : (j : Int) = k
  · rw [if_pos (by omega : k.toNat = j), if_pos (by omega), if_pos e]; rfl
  · rw [if_neg (by omega : ¬ k.toNat = j), if_neg e]
theorem worth_other {regs ins v u : List Int} {g : GateM} (h : ∀ a ∈ g.args, valI v a = valI u a) : worthM regs ins v g = worthM regs ins u g := by
  unfold worthM
  have : g.args.map (valI v) = g.args.map (valI u) := List.map_congr_left h
  rw [this]
theorem SInv.settle {gs : List GateM} {regs ins v : List Int} {k : Int} {work : List Int} {g : GateM} (h : SInv gs regs ins v (k :: work)) (hr : goodL regs) (hi : goodL ins) (ok : ∀ g ∈ gs, ∀ a ∈ g.args, 0 ≤ a ∧ a < gs.length)
    (hg : gs[k.toNat]? = some g) (hv : valI v k = 2) (hx : worthM regs ins v g ≠ 2) : SInv gs regs ins (v.set k.toNat (worthM regs ins v g)) (work ++ useI (usersM gs) k) := by
  obtain ⟨h0, h1⟩ := h.ws k (by simp)
  have hs := fun j : Nat => valI_set v k (worthM regs ins v g) j h0 (by rw [h.len]; exact h1)
  have hl : v.length = (v.set k.toNat (worthM regs ins v g)).length := by simp
  have hup : leqM v (v.set k.toNat (worthM regs ins v g)) = true := leqM_of_val hl fun j _ => by
    rw [hs j]; split
    · rename_i e; left; rw [e]; exact hv
    · exact leI.refl _
  have hsame : ∀ (g' : GateM), worthM regs ins v g' ≠ 2 → worthM regs ins (v.set k.toNat (worthM regs ins v g)) g' = worthM regs ins v g' := fun g' hn => by
    rcases worth_mono (regs := regs) (ins := ins) rfl rfl hl (leqM_refl _) (leqM_refl _) hup g' with e | e
    · exact absurd e hn
    · exact e.symm
  refine ⟨by simp [h.len], fun x hx => ?_, fun u hu hf => ?_, fun j g' hj hn => ?_, fun j g' hj he hn => ?_, fun j hj => ?_⟩
  · rcases List.mem_or_eq_of_mem_set hx with e | e
    · exact h.good x e
    · rw [e]; exact worth_good hr hi h.good g
  · have hb := h.below u hu hf
    refine leqM_of_val (by simp [h.len, hu]) fun j hj => ?_
    rw [hs j]; split
    · rename_i e
      rcases worth_mono (regs := regs) (ins := ins) rfl rfl (by rw [h.len, hu]) (leqM_refl _) (leqM_refl _) hb g with e2 | e2
      · exact absurd e2 hx
      · right; rw [e2]
        have hj2 : gs[j]? = some g := by rw [← hg]; congr 1; omega
        have := next_val (regs := regs) (ins := ins) (v := u) hj2
        rw [hf] at this; exact this.symm
    · exact leqM_val (by rw [h.len, hu]) hb j
  · rw [hs j] at hn ⊢
    split
    · rename_i e
      have hj2 : gs[k.toNat]? = some g' := by rw [← hj]; congr 1; omega
      rw [hg] at hj2; injection hj2 with hj2; subst hj2
      exact hsame g hx
    · rename_i e
      rw [if_neg e] at hn
      have ha := h.asc j g' hj hn
      rw [hsame g' (by rw [ha]; exact hn), ha]
  · rw [hs j] at he
    split at he
    · exact absurd he hx
    · rename_i e
      have hn' : (j : Int) ∉ work ∧ (j : Int) ∉ useI (usersM gs) k := by
        exact ⟨fun x => hn (by simp [x]), fun x => hn (by simp [x])⟩
      have hw := h.wait j g' hj he (fun x => by
        rcases List.mem_cons.1 x with x | x
        · exact e x
        · exact hn'.1 x)
      rw [← hw]
      symm
      refine worth_other fun a ha => ?_
      have hak : a ≠ k := fun x => hn'.2 ((mem_users ok h0).2 ⟨j, g', hj, rfl, by rw [← x]; exact ha⟩)
      have ha0 := (ok g' (List.mem_of_getElem? hj) a ha).1
      have := hs a.toNat
      rw [show ((a.toNat : Nat) : Int) = a from by omega] at this
      rw [this, if_neg hak]
  · rcases List.mem_append.1 hj with e | e
    · exact h.ws j (by simp [e])
    · obtain ⟨i, g', hi', rfl, _⟩ := (mem_users ok h0).1 e
      have := (List.getElem?_eq_some_iff.1 hi').1
      omega
/-! the law EvalTrue -/
end Go.Proofs.YtgohhcnmkomafaaGreatDoor
/- Levels, in plain Lean: the order by counts of what lacks, and the order by flags, are the same; what is told along an order is what is settled. No program in sight. -/
namespace Go.Proofs.YtgohhcnmkomafaaGreatDoor
set_option linter.unusedVariables false
set_option linter.unusedSimpArgs false
/-- All of args are done. -/
def argsDone (o : List Bool) (g : GateM) : Bool := g.args.all (onI o)
/-! counts of what lacks -/
/-! along an order -/
/-- An order of what is left. -/
def OrdM (gs : List GateM) : List Bool → List Int → Prop
  | _, [] => True
  | o, k :: l => 0 ≤ k ∧ (∃ g, gs[k.toNat]? = some g ∧ onI o k = false ∧ argsDone o g = true) ∧ OrdM gs (o.set k.toNat true) l
theorem cnt_set {o : List Bool} : ∀ {k : Nat}, o[k]? = some false → cnt (o.set k true) = cnt o + 1 := by
  induction o with
  | nil => intro k h; simp at h
  | cons x o ih =>
    intro k h
    cases k with
    | zero => simp at h; subst h; simp [cnt]
    | succ k => have := ih (k := k) (by simpa using h); simp only [cnt, List.set_cons_succ, List.countP_cons] at *; omega
theorem off_some {o : List Bool} {k : Int} (h : onI o k = false) (hl : k.toNat < o.length) : o[k.toNat]? = some false := by
  unfold onI at h; rw [List.getElem?_eq_getElem hl] at h ⊢; simpa using h
/-- Where an order ends, all are done. -/
theorem OrdM.all {gs : List GateM} : ∀ {l : List Int} {o : List Bool}, OrdM gs o l → o.length = gs.length → ∃ o' : List Bool, o' = l.foldl (fun o k => o.set k.toNat true) o ∧ o'.length = gs.length ∧ cnt o' = cnt o + l.length
  | [], o, _, ho => ⟨o, rfl, ho, rfl⟩
  | k :: l, o, h, ho => by
    obtain ⟨h0, ⟨g, hg, hon, _⟩, h3⟩ := h
    have hk : k.toNat < o.length := by have := (List.getElem?_eq_some_iff.1 hg).1; omega
    obtain ⟨o', h1, h2, h4⟩ := OrdM.all h3 (by simp [ho])
    exact ⟨o', by simpa using h1, h2, by rw [h4, cnt_set (off_some hon hk)]; simp; omega⟩
/-! what is told along an order -/
end Go.Proofs.YtgohhcnmkomafaaGreatDoor
/- Instants of nets, in plain Lean. No Go in sight. -/
namespace Go.Proofs.YtgohhcnmkomafaaGreatDoor
set_option linter.unusedVariables false
set_option linter.unusedSimpArgs false
def bitsM (x : Int) : Nat → List Int
  | 0 => []
  | n + 1 => x % 2 :: bitsM (x / 2) n
theorem bits_at (x : Int) : ∀ (n k : Nat), k < n → (bitsM x n)[k]? = some (x / 2 ^ k % 2)
  | 0, k, h => by omega
  | n + 1, 0, _ => by simp [bitsM]
  | n + 1, k + 1, h => by
    simp only [bitsM, List.getElem?_cons_succ]
    rw [bits_at (x / 2) n k (by omega), Int.ediv_ediv_of_nonneg (by decide), Int.pow_succ, Int.mul_comm]
/-! right nets -/
structure NetOK (N : NetM) : Prop where
  ins0 : 0 ≤ N.ins
  ins3 : N.ins ≤ 3
  gl : N.gates.length ≤ 200
  rl : N.regs.length ≤ 20
  ol : N.outs.length ≤ 3
  al : ∀ g ∈ N.gates, g.args.length ≤ 16
  named : ∀ k ∈ namedM N, 0 ≤ k ∧ k < N.gates.length
  kinds : ∀ g ∈ N.gates, 0 ≤ g.kind ∧ g.kind ≤ 6
  form : ∀ g ∈ N.gates, formM N g = true
theorem NetOK.check {N : NetM} (h : NetOK N) : checkN N = 0 := by
  have h1 : tooMany N = false := by
    have := h.ins3; have := h.gl; have := h.rl; have := h.ol
    simp only [tooMany, Bool.or_eq_false_iff, decide_eq_false_iff_not]; omega
  have h2 : N.gates.any manyA = false := List.any_eq_false.2 fun g hg => by have := h.al g hg; simp [manyA]; omega
  have h3 : ¬ N.ins < 0 := by have := h.ins0; omega
  have h4 : (namedM N).any (badPlace N.gates.length) = false := List.any_eq_false.2 fun k hk => by have := h.named k hk; simp [badPlace]; omega
  have h5 : N.gates.any badGK = false := List.any_eq_false.2 fun g hg => by have := h.kinds g hg; simp [badGK]; omega
  have h6 : N.gates.all (formM N) = true := List.all_eq_true.2 h.form
  simp [checkN, h1, h2, h3, h4, h5, h6]
theorem NetOK.args {N : NetM} (h : NetOK N) : okArgs N.gates := fun g hg a ha => h.named a (by
  unfold namedM; rw [List.mem_append]; right; exact List.mem_flatMap.2 ⟨g, hg, ha⟩)
theorem NetOK.outs {N : NetM} (h : NetOK N) : inR N.gates.length N.outs := fun a ha => h.named a (by simp [namedM, ha])
end Go.Proofs.YtgohhcnmkomafaaGreatDoor
/- The reference's stage: how it lies in memory; some, begin walked. -/
namespace Go.Proofs.YtgohhcnmkomafaaGreatDoor
set_option linter.unusedVariables false
set_option linter.unusedSimpArgs false
open Go.RowKit
attribute [local go_sem ↓] Go.wp_at_zero Go.wp_at_succ
/-- The stage in memory, and the state of its next rest. -/
structure RSt (w0 : World) (b g1 g2 g3 : Nat) (PA : Option Addr) (n pc : Nat) (fr : Bool) (WA : Option Addr) (wc : Nat) (OA : Option Addr) (oc ic : Nat) (ins : Int) (wr : World) (s : StM) : Prop where
  ext : Ext w0 wr
  hb : w0.heap.size ≤ b
  h1 : w0.heap.size ≤ g1
  h2 : w0.heap.size ≤ g2
  b1 : b ≠ g1
  b2 : b ≠ g2
  g12 : g1 ≠ g2
  g31 : g3 ≠ g1
  g32 : g3 ≠ g2
  c0 : wr.cell? ⟨b, 0, none⟩ = some (.slice PA n pc)
  c1 : wr.cell? ⟨b, 1, none⟩ = some (Bv fr)
  c2 : wr.cell? ⟨b, 2, none⟩ = some (.slice WA n wc)
  c3 : wr.cell? ⟨b, 3, none⟩ = some (.slice OA 3 oc)
  c4 : wr.cell? ⟨b, 4, none⟩ = some (.slice (some ⟨g3, 0, none⟩) 3 ic)
  c5 : wr.cell? ⟨b, 5, none⟩ = some (Bv false)
  c6 : wr.cell? ⟨b, 6, none⟩ = some (.slice (some ⟨g1, 0, none⟩) n n)
  c7 : wr.cell? ⟨b, 7, none⟩ = some (.slice (some ⟨g2, 0, none⟩) 3 3)
  bits : ∀ j x, (bitsM ins 3)[j]? = some x → wr.cell? ⟨g3, j, none⟩ = some (I x)
  W : wr.ownsRow w0.heap.size 4 1 (.slice (some ⟨g1, 0, none⟩) n n) n (s.W.map Bv)
  O : wr.ownsRow w0.heap.size 4 1 (.slice (some ⟨g2, 0, none⟩) 3 3) 3 (s.O.map Bv)
section
variable {w0 : World} {b g1 g2 g3 : Nat} {PA : Option Addr} {n pc : Nat} {fr : Bool} {WA : Option Addr} {wc : Nat} {OA : Option Addr} {oc ic : Nat} {ins : Int} {wr w' : World} {s s' : StM}
theorem RSt.off (h : RSt w0 b g1 g2 g3 PA n pc fr WA wc OA oc ic ins wr s) (k : Off g1 g2 wr w') (hW : w'.ownsRow w0.heap.size 4 1 (.slice (some ⟨g1, 0, none⟩) n n) n (s'.W.map Bv)) (hO : w'.ownsRow w0.heap.size 4 1 (.slice (some ⟨g2, 0, none⟩) 3 3) 3 (s'.O.map Bv)) :
    RSt w0 b g1 g2 g3 PA n pc fr WA wc OA oc ic ins w' s' :=
  ⟨k.ext h.ext h.h1 h.h2, h.hb, h.h1, h.h2, h.b1, h.b2, h.g12, h.g31, h.g32, k.cell h.c0 h.b1 h.b2, k.cell h.c1 h.b1 h.b2, k.cell h.c2 h.b1 h.b2, k.cell h.c3 h.b1 h.b2, k.cell h.c4 h.b1 h.b2, k.cell h.c5 h.b1 h.b2, k.cell h.c6 h.b1 h.b2, k.cell h.c7 h.b1 h.b2,
    fun j x hx => k.cell (h.bits j x hx) h.g31 h.g32, hW, hO⟩
theorem RSt.more (h : RSt w0 b g1 g2 g3 PA n pc fr WA wc OA oc ic ins wr s) (k : Ext wr w') : RSt w0 b g1 g2 g3 PA n pc fr WA wc OA oc ic ins w' s :=
  h.off (.of_ext k) (own_ext h.W k) (own_ext h.O k)
theorem RSt.setW (h : RSt w0 b g1 g2 g3 PA n pc fr WA wc OA oc ic ins wr s) (k : Nat) : RSt w0 b g1 g2 g3 PA n pc fr WA wc OA oc ic ins (wr.setCell ⟨g1, k, none⟩ (Bv true)) (waitSt s k) :=
  h.off ((Off.refl g1 g2 wr).set1 k _) (by have := (h.W.stored k (Bv true)).1; simpa [waitSt, List.map_set] using this) (own_other h.O (fun e => h.g12 (Option.some.inj e).symm))
theorem RSt.setO (h : RSt w0 b g1 g2 g3 PA n pc fr WA wc OA oc ic ins wr s) (k : Nat) : RSt w0 b g1 g2 g3 PA n pc fr WA wc OA oc ic ins (wr.setCell ⟨g2, k, none⟩ (Bv true)) (emitSt s k) :=
  h.off ((Off.refl g1 g2 wr).set2 k _) (own_other h.W (fun e => h.g12 (Option.some.inj e))) (by have := (h.O.stored k (Bv true)).1; simpa [emitSt, List.map_set] using this)
theorem set_false {l : List Bool} {k : Nat} (h : l[k]?.getD false = false) : l.set k false = l := by
  apply List.ext_getElem?
  intro j
  rw [List.getElem?_set]
  by_cases e : k = j
  · subst e
    rw [if_pos rfl]
    split
    · rename_i hl; rw [List.getElem?_eq_getElem hl] at h ⊢; simpa using h.symm
    · rename_i hl; rw [List.getElem?_eq_none (by omega)]
  · rw [if_neg e]
theorem RSt.setF (h : RSt w0 b g1 g2 g3 PA n pc fr WA wc OA oc ic ins wr s) {k : Nat} (hk : s.W[k]?.getD false = false) : RSt w0 b g1 g2 g3 PA n pc fr WA wc OA oc ic ins (wr.setCell ⟨g1, k, none⟩ (Bv false)) s :=
  h.off ((Off.refl g1 g2 wr).set1 k _) (by have := (h.W.stored k (Bv false)).1; rwa [← List.map_set, set_false hk] at this) (own_other h.O (fun e => h.g12 (Option.some.inj e).symm))
theorem RSt.bit (h : RSt w0 b g1 g2 g3 PA n pc fr WA wc OA oc ic ins wr s) {q : Nat} (hq : q < 3) : wr.cell? ⟨g3, q, none⟩ = some (I (ins / 2 ^ q % 2)) := h.bits q _ (bits_at ins 3 q hq)
end
theorem some_step {V : List Bool} {j m : Nat} {x : Bool} (hj : V[j]? = some x) : ((V.drop j).take (m + 1)).contains true = (x || ((V.drop (j + 1)).take m).contains true) := by
  have hl := (List.getElem?_eq_some_iff.1 hj).1
  have : V.drop j = x :: V.drop (j + 1) := by rw [List.drop_eq_getElem_cons hl]; congr 1; rw [List.getElem?_eq_getElem hl] at hj; injection hj
  rw [this, List.take_succ_cons, List.contains_cons]; cases x <;> simp
section
variable (w0 : World) (b g1 g2 g3 : Nat) (PA : Option Addr) (n pc : Nat) (fr : Bool) (WA : Option Addr) (wc : Nat) (OA : Option Addr) (oc ic : Nat) (ins : Int) (p : List PNode) (outs V : List Bool)
set_option maxHeartbeats 2000000 in
theorem rsome_any (wr : World) (s : StM) (h : RSt w0 b g1 g2 g3 PA n pc fr WA wc OA oc ic ins wr s)
    (hp : SlN w0 PA n p) (hV : Sl w0 WA n (V.map Bv)) (hn : n ≤ 14) (hK : p.any badKind = false) (k : Nat) (t : Tr) (ht : TreeAt p k t) (ok : t.ok) :
    Calls Tryz.prog 50 #[.pointer (some ⟨b, 0, none⟩), I k] wr fun e w' => e = .returned (.bool (someT V t k)) ∧ wr = w' := by
  have hle := ht.le
  have hpl := hp.1
  have hsz := size_pos t
  have hkn : k < n := by omega
  have hon := ht.one ok
  have hks : k + t.size ≤ n := by omega
  have c0 := h.c0; have c2 := h.c2
  have hP := hp.keep h.ext.keeps
  have hVV := Lib.hid (hV.keep h.ext.keeps)
  have hce := fun W (hW : SlN W PA n p) => end_any PA n pc p k W hW (by omega) hK hkn (by omega)
  rw [hon] at hce
  have HE := Lib.hid (hce wr hP)
  have hvl := hV.len
  generalize hR : someT V t k = R
  unfold someT at hR
  clear h hon ok hp hV ht hle hpl hce hP
  go_enter Tryz.func50, Tryz.ntmps50
  go_wp2
  go_loop [5] (fun i => ∃ j : Nat, k ≤ j ∧ j ≤ k + t.size ∧ i = .int .i64 j ∧ Hid (((V.drop j).take (k + t.size - j)).contains true = R)) (fun i => k + t.size - (intOf i).toNat)
  case atStart => exact ⟨k, Nat.le_refl _, by omega, rfl, by unfold Hid; rw [Nat.add_sub_cancel_left]; exact hR⟩
  case round =>
    obtain ⟨j, hj1, hj2, rfl, hM⟩ := hrel
    by_cases hlt : j < k + t.size
    · obtain ⟨wb, woff, x, rfl, hcx, hx⟩ := hVV.out.at_ (show j < n by omega)
      have hst := some_step (m := k + t.size - (j + 1)) hx
      rw [show k + t.size - (j + 1) + 1 = k + t.size - j from by omega] at hst
      have HST := Lib.hid hst
      have hlt' : (j : Int) < (k : Int) + t.size := by omega
      clear hst hx hR
      cases x
      · go_wp2_with fail
        refine HE.out.mono ?_; rintro e w' ⟨rfl, rfl⟩
        go_wp2
        go_round
        case rel => exact ⟨j + 1, by omega, by omega, by go_num, by unfold Hid; rw [← hM.out, HST.out]; simp⟩
        case measure => simp [intOf]; omega
      · go_wp2_with fail
        refine HE.out.mono ?_; rintro e w' ⟨rfl, rfl⟩
        go_wp2
        go_ret; exact ⟨ret_bool (by rw [← hM.out, HST.out]; simp), rfl⟩
    · have hje : j = k + t.size := by omega
      subst hje
      have hlt' : ¬ ((k + t.size : Nat) : Int) < (k : Int) + t.size := by omega
      clear hR
      go_wp2_with fail
      refine HE.out.mono ?_; rintro e w' ⟨rfl, rfl⟩
      go_wp2
      go_ret; exact ⟨ret_bool (by rw [← hM.out]; simp), rfl⟩
end
end Go.Proofs.YtgohhcnmkomafaaGreatDoor
/- The reference's begin and on walked. (Printed by walkref2.py.) -/
namespace Go.Proofs.YtgohhcnmkomafaaGreatDoor
set_option linter.unusedVariables false
set_option linter.unusedSimpArgs false
open Go.RowKit
attribute [local go_sem ↓] Go.wp_at_zero Go.wp_at_succ
section
variable (w0 : World) (b g1 g2 g3 : Nat) (PA : Option Addr) (n pc : Nat) (fr : Bool) (WA : Option Addr) (wc : Nat) (OA : Option Addr) (oc ic : Nat) (ins : Int) (p : List PNode) (outs V : List Bool)
/-- What is told of the reference's begin. -/
def RBeginOK (t : Tr) (k : Nat) : Prop := ∀ (wr : World) (s : StM), RSt w0 b g1 g2 g3 PA n pc fr WA wc OA oc ic ins wr s →
  Calls Tryz.prog 49 #[.pointer (some ⟨b, 0, none⟩), I k] wr fun e w' => e = .returned (.bool (beginT (thereM ins) (wasM outs) t k s).1) ∧
      (RSt w0 b g1 g2 g3 PA n pc fr WA wc OA oc ic ins w' (beginT (thereM ins) (wasM outs) t k s).2 ∧ Off g1 g2 wr w')
/-- What is told of the reference's on. -/
def ROnOK (t : Tr) (k : Nat) : Prop := ∀ (wr : World) (s : StM), RSt w0 b g1 g2 g3 PA n pc fr WA wc OA oc ic ins wr s → someT V t k = true → (∀ j : Nat, k ≤ j → j < k + t.size → s.W[j]?.getD false = false) →
  Calls Tryz.prog 51 #[.pointer (some ⟨b, 0, none⟩), I k] wr fun e w' => e = .returned (.bool (onT (thereM ins) (wasM outs) V t k s).1) ∧
      (RSt w0 b g1 g2 g3 PA n pc fr WA wc OA oc ic ins w' (onT (thereM ins) (wasM outs) V t k s).2 ∧ Off g1 g2 wr w')
set_option maxRecDepth 100000 in
set_option maxHeartbeats 4000000 in
theorem rbegin_leaf (hp : SlN w0 PA n p) (hn : n ≤ 14) (x : PNode) (k : Nat) (ht : TreeAt p k (.leaf x)) (ok : (Tr.leaf x).ok) (hg : goodN x) : RBeginOK w0 b g1 g2 g3 PA n pc fr WA wc OA oc ic ins outs (.leaf x) k := by
  intro wr s h
  have hle := ht.le
  have hpl := hp.1
  have hkn : k < n := by simp [Tr.size] at hle; omega
  have hk := good_leaf' ok hg
  have hsg := leaf_sig' hg
  have htop := ht.top
  obtain ⟨pb, poff, y, rfl, d0, d1, -, hy⟩ := hp.next hkn
  have hyx : y = x := by rw [htop] at hy; injection hy with hy; exact hy.symm
  subst hyx
  have c0 := h.c0; have c6 := h.c6; have c7 := h.c7
  have hbl := lt_of_cell c0
  have e0 := h.ext.keeps _ _ d0; have e1 := h.ext.keeps _ _ d1
  have hpl2 := lt_of_cell e0
  have HS := Lib.hid h
  obtain ⟨⟨u, hu, hcu⟩, hfz, -⟩ := own_at h.W hkn
  have hgl := lt_of_cell hcu
  obtain ⟨kd, sg⟩ := y
  simp only at hsg
  generalize hM : beginT (thereM ins) (wasM outs) (.leaf ⟨kd, sg⟩) k s = M
  simp only [beginT] at hM
  clear hp h ht ok hg hle hpl htop hy d0 d1 hu
  rcases hk with rfl | rfl | rfl | rfl | rfl
  · have HM := Lib.hid hM; clear hM c6 c7 hcu hfz hsg
    go_enter Tryz.func49, Tryz.ntmps49
    go_wp2
    go_ret
    exact ⟨by rw [← HM.out]; rfl, by rw [← HM.out]; exact HS.out.more ((Ext.refl wr).alloc _), .of_ext ((Ext.refl wr).alloc _)⟩
  · have HM := Lib.hid hM; clear hM c7 hsg
    go_enter Tryz.func49, Tryz.ntmps49
    go_wp2
    go_ret
    exact ⟨by rw [← HM.out]; rfl, by rw [← HM.out]; exact (HS.out.setW k).more ((Ext.refl _).alloc _), ((Off.refl g1 g2 wr).set1 k _).alloc _⟩
  · have HM := Lib.hid hM; clear hM c7 hsg
    go_enter Tryz.func49, Tryz.ntmps49
    go_wp2
    go_ret
    exact ⟨by rw [← HM.out]; rfl, by rw [← HM.out]; exact (HS.out.setW k).more ((Ext.refl _).alloc _), ((Off.refl g1 g2 wr).set1 k _).alloc _⟩
  · have HM := Lib.hid hM; clear hM c6 hcu hfz hgl
    obtain ⟨q, rfl⟩ := Int.eq_ofNat_of_zero_le hsg.1
    have hq : q < 3 := by omega
    have hq0 : (0 : Int) ≤ (q : Int) := by omega
    have hq3 : (q : Int) < 3 := by omega
    clear hsg
    go_enter Tryz.func49, Tryz.ntmps49
    go_wp2_with fail
    have hx1 := (Ext.refl wr).alloc (.cells #[.int .i64 3, .int .i64 (q : Int)] 91)
    have z1 : (wr.alloc (.cells #[.int .i64 3, .int .i64 (q : Int)] 91)).cell? ⟨wr.heap.size, 1, none⟩ = some (.int .i64 (q : Int)) := by go_simp
    generalize wr.alloc (.cells #[.int .i64 3, .int .i64 (q : Int)] 91) = W4 at *
    have HS4 := HS.out.more hx1
    have y7 := HS4.c7
    obtain ⟨⟨u, hu, hcu⟩, hfz, -⟩ := own_at HS4.O hq
    have HS5 := Lib.hid HS4; have HX4 := Lib.hid hx1
    clear hx1 HS4 hu c7
    go_still_tail 8, (by kernel_rfl)
    change wpList _ _ _ _ _ W4.drew
    go_wp2
    go_ret
    exact ⟨by rw [← HM.out]; rfl, by rw [← HM.out]; exact (HS5.out.setO q).more ((Ext.refl _).drew), ((Off.of_ext HX4.out).set2 q _).drew⟩
  · have HM := Lib.hid hM; clear hM c7 hsg
    go_enter Tryz.func49, Tryz.ntmps49
    go_wp2
    go_ret
    exact ⟨by rw [← HM.out]; rfl, by rw [← HM.out]; exact (HS.out.setW k).more ((Ext.refl _).alloc _), ((Off.refl g1 g2 wr).set1 k _).alloc _⟩
set_option maxRecDepth 100000 in
set_option maxHeartbeats 8000000 in
theorem rbegin_seq (hp : SlN w0 PA n p) (hn : n ≤ 14) (hK : p.any badKind = false) (sg : Int) (ta tb : Tr) (k : Nat) (ht : TreeAt p k (.two ⟨5, sg⟩ ta tb)) (ok : (Tr.two ⟨5, sg⟩ ta tb).ok) (hsr : 0 ≤ sg ∧ sg ≤ 2)
    (ia : RBeginOK w0 b g1 g2 g3 PA n pc fr WA wc OA oc ic ins outs ta (k + 1)) (ib : RBeginOK w0 b g1 g2 g3 PA n pc fr WA wc OA oc ic ins outs tb (k + 1 + ta.size)) :
    RBeginOK w0 b g1 g2 g3 PA n pc fr WA wc OA oc ic ins outs (.two ⟨5, sg⟩ ta tb) k := by
  intro wr s h
  have hle := ht.le
  have hpl := hp.1
  have hsa := size_pos ta
  have hkn : k < n := by simp [Tr.size] at hle; omega
  have hk1 : k + 1 < n := by simp [Tr.size] at hle; have := size_pos tb; omega
  have hon := ht.first.one ok.2.1
  have hce := fun W (hW : SlN W PA n p) => end_any PA n pc p (k + 1) W hW (by omega) hK hk1 (by omega)
  rw [hon, show ((k + 1 : Nat) : Int) = (k : Int) + 1 from by omega] at hce
  have htop := ht.top
  have ca := fun W s' hw => ia W s' hw
  have cb := fun W s' hw => ib W s' hw
  rw [show ((k + 1 : Nat) : Int) = (k : Int) + 1 from by omega] at ca
  rw [show ((k + 1 + ta.size : Nat) : Int) = (k : Int) + 1 + ta.size from by omega] at cb
  have IA := Lib.hid ca; have IB := Lib.hid cb; clear ca cb
  obtain ⟨pb, poff, y, rfl, d0, d1, -, hy⟩ := hp.next hkn
  have hyx : y = ⟨5, sg⟩ := by rw [htop] at hy; injection hy with hy; exact hy.symm
  subst hyx
  have c0 := h.c0
  have hbl := lt_of_cell c0
  have e0 := h.ext.keeps _ _ d0; have e1 := h.ext.keeps _ _ d1
  have hpl2 := lt_of_cell e0
  have hx1 := (Ext.refl wr).alloc (.cells #[.int .i64 5, .int .i64 sg] 91)
  have CE := Lib.hid (hce _ ((hp.keep h.ext.keeps).keep hx1.keeps))
  have hg1 : g1 < wr.heap.size := (h.W.lt g1 rfl).2
  have hg2 : g2 < wr.heap.size := (h.O.lt g2 rfl).2
  have HS := Lib.hid h; have HG1 := Lib.hid hg1; have HG2 := Lib.hid hg2; clear hg1 hg2
  generalize hM : beginT (thereM ins) (wasM outs) (.two ⟨5, sg⟩ ta tb) k s = M
  simp only [beginT, choiceM, Int.reduceEq, if_true, if_false] at hM
  clear hp h ht ok hle hpl htop hy d0 d1 ia ib hce hsa hon
  cases hr : (beginT (thereM ins) (wasM outs) ta (k + 1) s).1
  · rw [hr] at hM
    have HR := Lib.hid hr; have HM := Lib.hid hM; clear hr hM
    go_enter Tryz.func49, Tryz.ntmps49
    go_wp2_with fail
    refine CE.out.mono ?_; rintro e w' ⟨rfl, rfl⟩
    go_wp2_with fail
    refine (IA.out _ s (HS.out.more hx1)).mono ?_; rintro e w1 ⟨rfl, hs1, o1⟩; rw [HR.out]
    have HS1 := Lib.hid hs1; have O1 := Lib.hid o1; clear hs1 o1
    go_wp2
    go_ret
    exact ⟨by rw [← HM.out]; rfl, by rw [← HM.out]; exact HS1.out, (Off.of_ext hx1).trans O1.out⟩
  · rw [hr] at hM
    have HR := Lib.hid hr; have HM := Lib.hid hM; clear hr hM
    go_enter Tryz.func49, Tryz.ntmps49
    go_wp2_with fail
    refine CE.out.mono ?_; rintro e w' ⟨rfl, rfl⟩
    go_wp2_with fail
    refine (IA.out _ s (HS.out.more hx1)).mono ?_; rintro e w1 ⟨rfl, hs1, o1⟩; rw [HR.out]
    have HS1 := Lib.hid hs1; have O1 := Lib.hid o1; clear hs1 o1
    go_wp2_with fail
    refine (IB.out w1 _ HS1.out).mono ?_; rintro e w2 ⟨rfl, hs2, o2⟩
    have HS2 := Lib.hid hs2; have O2 := Lib.hid o2; clear hs2 o2
    go_wp2
    go_ret
    exact ⟨by rw [← HM.out]; rfl, by rw [← HM.out]; exact HS2.out, ((Off.of_ext hx1).trans O1.out).trans O2.out⟩
set_option maxRecDepth 100000 in
set_option maxHeartbeats 8000000 in
theorem rbegin_par (hp : SlN w0 PA n p) (hn : n ≤ 14) (hK : p.any badKind = false) (sg : Int) (ta tb : Tr) (k : Nat) (ht : TreeAt p k (.two ⟨6, sg⟩ ta tb)) (ok : (Tr.two ⟨6, sg⟩ ta tb).ok) (hsr : 0 ≤ sg ∧ sg ≤ 2)
    (ia : RBeginOK w0 b g1 g2 g3 PA n pc fr WA wc OA oc ic ins outs ta (k + 1)) (ib : RBeginOK w0 b g1 g2 g3 PA n pc fr WA wc OA oc ic ins outs tb (k + 1 + ta.size)) :
    RBeginOK w0 b g1 g2 g3 PA n pc fr WA wc OA oc ic ins outs (.two ⟨6, sg⟩ ta tb) k := by
  intro wr s h
  have hle := ht.le
  have hpl := hp.1
  have hsa := size_pos ta
  have hkn : k < n := by simp [Tr.size] at hle; omega
  have hk1 : k + 1 < n := by simp [Tr.size] at hle; have := size_pos tb; omega
  have hon := ht.first.one ok.2.1
  have hce := fun W (hW : SlN W PA n p) => end_any PA n pc p (k + 1) W hW (by omega) hK hk1 (by omega)
  rw [hon, show ((k + 1 : Nat) : Int) = (k : Int) + 1 from by omega] at hce
  have htop := ht.top
  have ca := fun W s' hw => ia W s' hw
  have cb := fun W s' hw => ib W s' hw
  rw [show ((k + 1 : Nat) : Int) = (k : Int) + 1 from by omega] at ca
  rw [show ((k + 1 + ta.size : Nat) : Int) = (k : Int) + 1 + ta.size from by omega] at cb
  have IA := Lib.hid ca; have IB := Lib.hid cb; clear ca cb
  obtain ⟨pb, poff, y, rfl, d0, d1, -, hy⟩ := hp.next hkn
  have hyx : y = ⟨6, sg⟩ := by rw [htop] at hy; injection hy with hy; exact hy.symm
  subst hyx
  have c0 := h.c0
  have hbl := lt_of_cell c0
  have e0 := h.ext.keeps _ _ d0; have e1 := h.ext.keeps _ _ d1
  have hpl2 := lt_of_cell e0
  have hx1 := (Ext.refl wr).alloc (.cells #[.int .i64 6, .int .i64 sg] 91)
  have CE := Lib.hid (hce _ ((hp.keep h.ext.keeps).keep hx1.keeps))
  have hg1 : g1 < wr.heap.size := (h.W.lt g1 rfl).2
  have hg2 : g2 < wr.heap.size := (h.O.lt g2 rfl).2
  have HS := Lib.hid h; have HG1 := Lib.hid hg1; have HG2 := Lib.hid hg2; clear hg1 hg2
  generalize hM : beginT (thereM ins) (wasM outs) (.two ⟨6, sg⟩ ta tb) k s = M
  simp only [beginT, choiceM, Int.reduceEq, if_true, if_false] at hM
  clear hp h ht ok hle hpl htop hy d0 d1 ia ib hce hsa hon
  have HM := Lib.hid hM; clear hM
  go_enter Tryz.func49, Tryz.ntmps49
  go_wp2_with fail
  refine CE.out.mono ?_; rintro e w' ⟨rfl, rfl⟩
  go_wp2_with fail
  refine (IA.out _ s (HS.out.more hx1)).mono ?_; rintro e w1 ⟨rfl, hs1, o1⟩
  have HS1 := Lib.hid hs1; have O1 := Lib.hid o1; clear hs1 o1
  go_wp2_with fail
  refine (IB.out w1 _ HS1.out).mono ?_; rintro e w2 ⟨rfl, hs2, o2⟩
  have HS2 := Lib.hid hs2; have O2 := Lib.hid o2; clear hs2 o2
  go_wp2
  all_goals
    go_ret
    exact ⟨by rw [← HM.out]; simp_all, by rw [← HM.out]; exact HS2.out, ((Off.of_ext hx1).trans O1.out).trans O2.out⟩
set_option maxRecDepth 100000 in
set_option maxHeartbeats 8000000 in
theorem rbegin_if (hp : SlN w0 PA n p) (hn : n ≤ 14) (hK : p.any badKind = false) (sg : Int) (ta tb : Tr) (k : Nat) (ht : TreeAt p k (.two ⟨7, sg⟩ ta tb)) (ok : (Tr.two ⟨7, sg⟩ ta tb).ok) (hsr : 0 ≤ sg ∧ sg ≤ 2)
    (ia : RBeginOK w0 b g1 g2 g3 PA n pc fr WA wc OA oc ic ins outs ta (k + 1)) (ib : RBeginOK w0 b g1 g2 g3 PA n pc fr WA wc OA oc ic ins outs tb (k + 1 + ta.size)) :
    RBeginOK w0 b g1 g2 g3 PA n pc fr WA wc OA oc ic ins outs (.two ⟨7, sg⟩ ta tb) k := by
  intro wr s h
  have hle := ht.le
  have hpl := hp.1
  have hsa := size_pos ta
  have hkn : k < n := by simp [Tr.size] at hle; omega
  have hk1 : k + 1 < n := by simp [Tr.size] at hle; have := size_pos tb; omega
  have hon := ht.first.one ok.2.1
  have hce := fun W (hW : SlN W PA n p) => end_any PA n pc p (k + 1) W hW (by omega) hK hk1 (by omega)
  rw [hon, show ((k + 1 : Nat) : Int) = (k : Int) + 1 from by omega] at hce
  have htop := ht.top
  have ca := fun W s' hw => ia W s' hw
  have cb := fun W s' hw => ib W s' hw
  rw [show ((k + 1 : Nat) : Int) = (k : Int) + 1 from by omega] at ca
  rw [show ((k + 1 + ta.size : Nat) : Int) = (k : Int) + 1 + ta.size from by omega] at cb
  have IA := Lib.hid ca; have IB := Lib.hid cb; clear ca cb
  obtain ⟨pb, poff, y, rfl, d0, d1, -, hy⟩ := hp.next hkn
  have hyx : y = ⟨7, sg⟩ := by rw [htop] at hy; injection hy with hy; exact hy.symm
  subst hyx
  have c0 := h.c0
  have hbl := lt_of_cell c0
  have e0 := h.ext.keeps _ _ d0; have e1 := h.ext.keeps _ _ d1
  have hpl2 := lt_of_cell e0
  have hx1 := (Ext.refl wr).alloc (.cells #[.int .i64 7, .int .i64 sg] 91)
  have CE := Lib.hid (hce _ ((hp.keep h.ext.keeps).keep hx1.keeps))
  have hg1 : g1 < wr.heap.size := (h.W.lt g1 rfl).2
  have hg2 : g2 < wr.heap.size := (h.O.lt g2 rfl).2
  have HS := Lib.hid h; have HG1 := Lib.hid hg1; have HG2 := Lib.hid hg2; clear hg1 hg2
  generalize hM : beginT (thereM ins) (wasM outs) (.two ⟨7, sg⟩ ta tb) k s = M
  simp only [beginT, choiceM, Int.reduceEq, if_true, if_false] at hM
  clear hp h ht ok hle hpl htop hy d0 d1 ia ib hce hsa hon
  obtain ⟨sn, rfl⟩ := Int.eq_ofNat_of_zero_le hsr.1
  have hsn : sn < 3 := by have := hsr.2; omega
  have c4 := HS.out.c4
  have yb := HS.out.bit hsn
  have hbl3 := lt_of_cell yb
  have hq0 : (0 : Int) ≤ (sn : Int) := by omega
  have hq3 : (sn : Int) < 3 := by omega
  clear hsr
  cases hr : thereM ins (sn : Int)
  · rw [hr] at hM
    simp only [Bool.false_eq_true, if_false, if_true] at hM
    have HM := Lib.hid hM; clear hM
    have hbit : ((ins / 2 ^ sn % 2 : Int) == 1) = false := by simp only [thereM, Int.toNat_natCast, decide_eq_false_iff_not] at hr; simpa using hr
    generalize ins / 2 ^ sn % 2 = bt at *
    clear hr
    go_enter Tryz.func49, Tryz.ntmps49
    go_wp2_with fail
    refine CE.out.mono ?_; rintro e w' ⟨rfl, rfl⟩
    go_wp2_with fail
    go_quiet (fail)
    go_wp2_with fail
    refine (IB.out _ s ((HS.out.more hx1).more ((Ext.refl _).drewN _))).mono ?_; rintro e w1 ⟨rfl, hs1, o1⟩
    have HS1 := Lib.hid hs1; have O1 := Lib.hid o1; clear hs1 o1
    go_wp2
    go_ret
    exact ⟨by rw [← HM.out]; rfl, by rw [← HM.out]; exact HS1.out, (Off.of_ext (hx1.drewN _)).trans O1.out⟩
  · rw [hr] at hM
    simp only [Bool.false_eq_true, if_false, if_true] at hM
    have HM := Lib.hid hM; clear hM
    have hbit : ((ins / 2 ^ sn % 2 : Int) == 1) = true := by simp only [thereM, Int.toNat_natCast, decide_eq_true_eq] at hr; simpa using hr
    generalize ins / 2 ^ sn % 2 = bt at *
    clear hr
    go_enter Tryz.func49, Tryz.ntmps49
    go_wp2_with fail
    refine CE.out.mono ?_; rintro e w' ⟨rfl, rfl⟩
    go_wp2_with fail
    go_quiet (fail)
    go_wp2_with fail
    refine (IA.out _ s ((HS.out.more hx1).more ((Ext.refl _).drewN _))).mono ?_; rintro e w1 ⟨rfl, hs1, o1⟩
    have HS1 := Lib.hid hs1; have O1 := Lib.hid o1; clear hs1 o1
    go_wp2
    go_ret
    exact ⟨by rw [← HM.out]; rfl, by rw [← HM.out]; exact HS1.out, (Off.of_ext (hx1.drewN _)).trans O1.out⟩
set_option maxRecDepth 100000 in
set_option maxHeartbeats 8000000 in
theorem rbegin_was (hp : SlN w0 PA n p) (hO : Sl w0 OA 3 (outs.map Bv)) (hn : n ≤ 14) (hK : p.any badKind = false) (sg : Int) (ta tb : Tr) (k : Nat) (ht : TreeAt p k (.two ⟨8, sg⟩ ta tb)) (ok : (Tr.two ⟨8, sg⟩ ta tb).ok) (hsr : 0 ≤ sg ∧ sg ≤ 2)
    (ia : RBeginOK w0 b g1 g2 g3 PA n pc fr WA wc OA oc ic ins outs ta (k + 1)) (ib : RBeginOK w0 b g1 g2 g3 PA n pc fr WA wc OA oc ic ins outs tb (k + 1 + ta.size)) :
    RBeginOK w0 b g1 g2 g3 PA n pc fr WA wc OA oc ic ins outs (.two ⟨8, sg⟩ ta tb) k := by
  intro wr s h
  have hle := ht.le
  have hpl := hp.1
  have hsa := size_pos ta
  have hkn : k < n := by simp [Tr.size] at hle; omega
  have hk1 : k + 1 < n := by simp [Tr.size] at hle; have := size_pos tb; omega
  have hon := ht.first.one ok.2.1
  have hce := fun W (hW : SlN W PA n p) => end_any PA n pc p (k + 1) W hW (by omega) hK hk1 (by omega)
  rw [hon, show ((k + 1 : Nat) : Int) = (k : Int) + 1 from by omega] at hce
  have htop := ht.top
  have ca := fun W s' hw => ia W s' hw
  have cb := fun W s' hw => ib W s' hw
  rw [show ((k + 1 : Nat) : Int) = (k : Int) + 1 from by omega] at ca
  rw [show ((k + 1 + ta.size : Nat) : Int) = (k : Int) + 1 + ta.size from by omega] at cb
  have IA := Lib.hid ca; have IB := Lib.hid cb; clear ca cb
  obtain ⟨pb, poff, y, rfl, d0, d1, -, hy⟩ := hp.next hkn
  have hyx : y = ⟨8, sg⟩ := by rw [htop] at hy; injection hy with hy; exact hy.symm
  subst hyx
  have c0 := h.c0
  have hbl := lt_of_cell c0
  have e0 := h.ext.keeps _ _ d0; have e1 := h.ext.keeps _ _ d1
  have hpl2 := lt_of_cell e0
  have hx1 := (Ext.refl wr).alloc (.cells #[.int .i64 8, .int .i64 sg] 91)
  have CE := Lib.hid (hce _ ((hp.keep h.ext.keeps).keep hx1.keeps))
  have hg1 : g1 < wr.heap.size := (h.W.lt g1 rfl).2
  have hg2 : g2 < wr.heap.size := (h.O.lt g2 rfl).2
  have HS := Lib.hid h; have HG1 := Lib.hid hg1; have HG2 := Lib.hid hg2; clear hg1 hg2
  generalize hM : beginT (thereM ins) (wasM outs) (.two ⟨8, sg⟩ ta tb) k s = M
  simp only [beginT, choiceM, Int.reduceEq, if_true, if_false] at hM
  clear hp h ht ok hle hpl htop hy d0 d1 ia ib hce hsa hon
  obtain ⟨sn, rfl⟩ := Int.eq_ofNat_of_zero_le hsr.1
  have hsn : sn < 3 := by have := hsr.2; omega
  obtain ⟨ob, ooff, u, rfl, hcu0, hu⟩ := hO.at_ hsn
  have hws : wasM outs (sn : Int) = u := by simp [wasM, hu]
  have c3 := HS.out.c3
  have yo := HS.out.ext.keeps _ _ hcu0
  have hol3 := lt_of_cell yo
  have hq0 : (0 : Int) ≤ (sn : Int) := by omega
  have hq3 : (sn : Int) < 3 := by omega
  clear hO hcu0 hu hsr
  rw [hws] at hM
  clear hws
  cases hr : u
  · rw [hr] at hM
    simp only [Bool.false_eq_true, if_false, if_true] at hM
    have HM := Lib.hid hM; clear hM
    subst hr
    go_enter Tryz.func49, Tryz.ntmps49
    go_wp2_with fail
    refine CE.out.mono ?_; rintro e w' ⟨rfl, rfl⟩
    go_wp2_with fail
    go_quiet (fail)
    go_wp2_with fail
    refine (IB.out _ s ((HS.out.more hx1).more ((Ext.refl _).drewN _))).mono ?_; rintro e w1 ⟨rfl, hs1, o1⟩
    have HS1 := Lib.hid hs1; have O1 := Lib.hid o1; clear hs1 o1
    go_wp2
    go_ret
    exact ⟨by rw [← HM.out]; rfl, by rw [← HM.out]; exact HS1.out, (Off.of_ext (hx1.drewN _)).trans O1.out⟩
  · rw [hr] at hM
    simp only [Bool.false_eq_true, if_false, if_true] at hM
    have HM := Lib.hid hM; clear hM
    subst hr
    go_enter Tryz.func49, Tryz.ntmps49
    go_wp2_with fail
    refine CE.out.mono ?_; rintro e w' ⟨rfl, rfl⟩
    go_wp2_with fail
    go_quiet (fail)
    go_wp2_with fail
    refine (IA.out _ s ((HS.out.more hx1).more ((Ext.refl _).drewN _))).mono ?_; rintro e w1 ⟨rfl, hs1, o1⟩
    have HS1 := Lib.hid hs1; have O1 := Lib.hid o1; clear hs1 o1
    go_wp2
    go_ret
    exact ⟨by rw [← HM.out]; rfl, by rw [← HM.out]; exact HS1.out, (Off.of_ext (hx1.drewN _)).trans O1.out⟩
theorem rbegin_any (hp : SlN w0 PA n p) (hO : Sl w0 OA 3 (outs.map Bv)) (hn : n ≤ 14) (hK : p.any badKind = false) : ∀ (t : Tr) (k : Nat), TreeAt p k t → t.ok → (∀ x ∈ t.flat, goodN x) → RBeginOK w0 b g1 g2 g3 PA n pc fr WA wc OA oc ic ins outs t k
  | .leaf x, k, ht, ok, hg => rbegin_leaf w0 b g1 g2 g3 PA n pc fr WA wc OA oc ic ins p outs hp hn x k ht ok (hg x (by simp [Tr.flat]))
  | .two ⟨kd, sg⟩ ta tb, k, ht, ok, hg => by
    have hgs := sub_good hg
    have hx := hg ⟨kd, sg⟩ (by simp [Tr.flat])
    have hsr := leaf_sig' hx
    have ia := rbegin_any hp hO hn hK ta (k + 1) ht.first ok.2.1 hgs.1
    have ib := rbegin_any hp hO hn hK tb (k + 1 + ta.size) ht.second ok.2.2 hgs.2
    rcases good_two' ok.1 hx with e | e | e | e
    · simp only at e; subst e; exact rbegin_seq w0 b g1 g2 g3 PA n pc fr WA wc OA oc ic ins p outs hp hn hK sg ta tb k ht ok hsr ia ib
    · simp only at e; subst e; exact rbegin_par w0 b g1 g2 g3 PA n pc fr WA wc OA oc ic ins p outs hp hn hK sg ta tb k ht ok hsr ia ib
    · simp only at e; subst e; exact rbegin_if w0 b g1 g2 g3 PA n pc fr WA wc OA oc ic ins p outs hp hn hK sg ta tb k ht ok hsr ia ib
    · simp only at e; subst e; exact rbegin_was w0 b g1 g2 g3 PA n pc fr WA wc OA oc ic ins p outs hp hO hn hK sg ta tb k ht ok hsr ia ib
end
end Go.Proofs.YtgohhcnmkomafaaGreatDoor
/- The reference's on walked. -/
namespace Go.Proofs.YtgohhcnmkomafaaGreatDoor
set_option linter.unusedVariables false
set_option linter.unusedSimpArgs false
open Go.RowKit
attribute [local go_sem ↓] Go.wp_at_zero Go.wp_at_succ
section
variable (w0 : World) (b g1 g2 g3 : Nat) (PA : Option Addr) (n pc : Nat) (fr : Bool) (WA : Option Addr) (wc : Nat) (OA : Option Addr) (oc ic : Nat) (ins : Int) (p : List PNode) (outs V : List Bool)
set_option maxRecDepth 100000 in
set_option maxHeartbeats 4000000 in
theorem ron_leaf (hp : SlN w0 PA n p) (hn : n ≤ 14) (hVk : waitsOK p V) (x : PNode) (k : Nat) (ht : TreeAt p k (.leaf x)) (ok : (Tr.leaf x).ok) (hg : goodN x) : ROnOK w0 b g1 g2 g3 PA n pc fr WA wc OA oc ic ins outs V (.leaf x) k := by
  intro wr s h hso hz
  have hle := ht.le
  have hpl := hp.1
  have hkn : k < n := by simp [Tr.size] at hle; omega
  have hsg := leaf_sig' hg
  have htop := ht.top
  have hzk := hz k (Nat.le_refl _) (by simp [Tr.size])
  have hw : waitK x.kind = true := by
    obtain ⟨y, h1, h2⟩ := hVk k (some_leaf hso)
    rw [htop] at h1; injection h1 with h1; rw [← h1] at h2; exact h2
  have hk : x.kind = 1 ∨ x.kind = 2 ∨ x.kind = 4 := by simpa [waitK, or_assoc] using hw
  obtain ⟨pb, poff, y, rfl, d0, d1, -, hy⟩ := hp.next hkn
  have hyx : y = x := by rw [htop] at hy; injection hy with hy; exact hy.symm
  subst hyx
  have c0 := h.c0; have c6 := h.c6
  have hbl := lt_of_cell c0
  have e0 := h.ext.keeps _ _ d0; have e1 := h.ext.keeps _ _ d1
  have hpl2 := lt_of_cell e0
  have HS := Lib.hid h; have HZ := Lib.hid hzk
  obtain ⟨⟨u, hu, hcu⟩, hfz, -⟩ := own_at h.W hkn
  have hgl := lt_of_cell hcu
  obtain ⟨kd, sg⟩ := y
  simp only at hsg
  generalize hM : onT (thereM ins) (wasM outs) V (.leaf ⟨kd, sg⟩) k s = M
  simp only [onT] at hM
  clear hp h ht ok hg hle hpl htop hy d0 d1 hu hVk hw hso hz hzk
  rcases hk with rfl | rfl | rfl
  · have HM := Lib.hid hM; clear hM c6 hcu hfz hsg
    go_enter Tryz.func51, Tryz.ntmps51
    go_wp2
    go_ret
    exact ⟨by rw [← HM.out]; rfl, by rw [← HM.out]; exact HS.out.more ((Ext.refl wr).alloc _), .of_ext ((Ext.refl wr).alloc _)⟩
  · have HM := Lib.hid hM; clear hM hsg
    go_enter Tryz.func51, Tryz.ntmps51
    go_wp2
    go_ret
    exact ⟨by rw [← HM.out]; rfl, by rw [← HM.out]; exact (HS.out.setW k).more ((Ext.refl _).alloc _), ((Off.refl g1 g2 wr).set1 k _).alloc _⟩
  · simp only [Int.reduceEq, if_false] at hM
    obtain ⟨sn, rfl⟩ := Int.eq_ofNat_of_zero_le hsg.1
    have hsn : sn < 3 := by have := hsg.2; omega
    have hq0 : (0 : Int) ≤ (sn : Int) := by omega
    have hq3 : (sn : Int) < 3 := by omega
    have hx1 := (Ext.refl wr).alloc (.cells #[.int .i64 4, .int .i64 (sn : Int)] 91)
    have hbd : ins / 2 ^ sn % 2 = 0 ∨ ins / 2 ^ sn % 2 = 1 := by omega
    have yb := HS.out.bit hsn
    have hk0 : (0 : Int) ≤ (k : Int) := by omega
    have hkn' : (k : Int) < (n : Int) := by omega
    have hth : thereM ins (sn : Int) = decide (ins / 2 ^ sn % 2 = 1) := by simp [thereM]
    rw [hth] at hM
    clear hth hsg c6 hcu hfz hgl
    generalize ins / 2 ^ sn % 2 = bt at *
    rcases hbd with rfl | rfl
    · have HM := Lib.hid hM; clear hM
      go_enter Tryz.func51, Tryz.ntmps51
      go_wp2_with fail
      have z1 : (wr.alloc (.cells #[.int .i64 4, .int .i64 (sn : Int)] 91)).cell? ⟨wr.heap.size, 1, none⟩ = some (.int .i64 (sn : Int)) := by go_simp
      generalize wr.alloc (.cells #[.int .i64 4, .int .i64 (sn : Int)] 91) = W4 at *
      have HS4 := HS.out.more hx1
      have y6 := HS4.c6; have y4 := HS4.c4; have yb4 := hx1.keeps _ _ yb
      obtain ⟨⟨u, hu, hcu⟩, hfz, -⟩ := own_at HS4.W hkn
      have HS5 := Lib.hid HS4; have HX4 := Lib.hid hx1
      clear hx1 HS4 hu yb
      go_still_tail 16, (by kernel_rfl)
      have v6 : (W4.setCell ⟨g1, k, none⟩ (Value.bool true)).cell? ⟨b, 6, none⟩ = some (.slice (some ⟨g1, 0, none⟩) n n) := (HS5.out.setW k).c6
      change wpList _ _ _ _ _ W4.drew
      go_wp2_with fail
      have HS6 := (HS5.out.setW k).more ((Ext.refl (W4.setCell ⟨g1, k, none⟩ (Bv true))).drew)
      have v7 : (W4.setCell ⟨g1, k, none⟩ (Value.bool true)).cell? ⟨g1, k, none⟩ = some (Value.bool true) := World.cell?_setCell_same _ _ _ hcu
      go_wp2
      go_ret
      exact ⟨by rw [← HM.out]; rfl, by rw [← HM.out]; exact HS6, ((Off.of_ext HX4.out).set1 k _).drew⟩
    · have HM := Lib.hid hM; clear hM
      go_enter Tryz.func51, Tryz.ntmps51
      go_wp2_with fail
      have z1 : (wr.alloc (.cells #[.int .i64 4, .int .i64 (sn : Int)] 91)).cell? ⟨wr.heap.size, 1, none⟩ = some (.int .i64 (sn : Int)) := by go_simp
      generalize wr.alloc (.cells #[.int .i64 4, .int .i64 (sn : Int)] 91) = W4 at *
      have HS4 := HS.out.more hx1
      have y6 := HS4.c6; have y4 := HS4.c4; have yb4 := hx1.keeps _ _ yb
      obtain ⟨⟨u, hu, hcu⟩, hfz, -⟩ := own_at HS4.W hkn
      have HS5 := Lib.hid HS4; have HX4 := Lib.hid hx1
      clear hx1 HS4 hu yb
      go_still_tail 16, (by kernel_rfl)
      have v6 : (W4.setCell ⟨g1, k, none⟩ (Value.bool false)).cell? ⟨b, 6, none⟩ = some (.slice (some ⟨g1, 0, none⟩) n n) := (HS5.out.setF HZ.out).c6
      change wpList _ _ _ _ _ W4.drew
      go_wp2_with fail
      have v7 : (W4.setCell ⟨g1, k, none⟩ (Value.bool false)).cell? ⟨g1, k, none⟩ = some (Value.bool false) := World.cell?_setCell_same _ _ _ hcu
      have HS6 := (HS5.out.setF HZ.out).more ((Ext.refl (W4.setCell ⟨g1, k, none⟩ (Bv false))).drew)
      go_wp2
      go_ret
      exact ⟨by rw [← HM.out]; rfl, by rw [← HM.out]; exact (HS5.out.setF HZ.out).more ((Ext.refl (W4.setCell ⟨g1, k, none⟩ (Bv false))).drew), ((Off.of_ext HX4.out).set1 k _).drew⟩
end
end Go.Proofs.YtgohhcnmkomafaaGreatDoor
