/-
  (*Grove).strike.
-/
import Derived.Test.YtoonkidlbnndcaaDel
namespace Go.Proofs.Ytoonkidlbnndcaa
set_option linter.unusedVariables false
set_option linter.unusedSimpArgs false
open Go.RowKit

/-- The marks of tasks or of scopes. -/
def GroveA.marks (G : GroveA) (sc : Bool) : List Int := if sc then G.scopes else G.tasks
def GroveA.mark (G : GroveA) (sc : Bool) (n : Int) : GroveA := if sc then { G with scopes := n :: G.scopes } else { G with tasks := n :: G.tasks }
def GAt.mm (A : GAt) (sc : Bool) : Nat := if sc then A.ms else A.mt
def cancelEff (x : Nat) : EffA := ⟨2, (x : Int), 0, .none⟩

/-- What a strike does: the grove behind it, and the effects. -/
def GroveA.strikeG (G : GroveA) (sc : Bool) (n : Int) : GroveA := if n ∈ G.marks sc then G else G.mark sc n
def GroveA.strikeE (G : GroveA) (sc : Bool) (n : Int) (reach : List Nat) : List EffA :=
  if n ∈ G.marks sc then [] else ((liveL G.pending reach).filter (fun x : Nat => (G.mark sc n).pending x)).map cancelEff

theorem mark_tree (G : GroveA) (sc : Bool) (n : Int) : (G.mark sc n).tree = G.tree := by unfold GroveA.mark; split <;> rfl

theorem nodup_bound : ∀ (n : Nat) (l : List Nat), l.Nodup → (∀ x ∈ l, x < n) → l.length ≤ n
  | 0, l, _, h => by
    cases l with
    | nil => exact Nat.le_refl _
    | cons a l => exact absurd (h a (by simp)) (Nat.not_lt_zero _)
  | n + 1, l, hd, h => by
    have h1 := nodup_bound n (l.erase n) (hd.erase n) (fun x hx => by
      have := h x (List.mem_of_mem_erase hx)
      have hne : x ≠ n := fun e => by subst e; exact (List.Nodup.not_mem_erase hd) hx
      omega)
    have h2 : l.length ≤ (l.erase n).length + 1 := by
      rw [List.length_erase]
      split <;> omega
    omega

theorem nodup_int {l : List Int} {m : Nat} (hd : l.Nodup) (h : ∀ n ∈ l, 1 ≤ n ∧ n ≤ (m : Int)) : l.length ≤ m := by
  have h1 := nodup_bound m (l.map (fun n => n.toNat - 1)) (by
    rw [List.nodup_iff_pairwise_ne, List.pairwise_map]
    refine (List.nodup_iff_pairwise_ne.1 hd).imp_of_mem fun {a b} ha hb hne e => hne ?_
    have := h a ha
    have := h b hb
    omega) (fun x hx => by
    obtain ⟨n, hn, rfl⟩ := List.mem_map.1 hx
    have := h n hn
    omega)
  simpa using h1

section
variable {K : Kap} {A : GAt} {G : GroveA} {w w' : World}

theorem GRep.mark_map (R : GRep K A G w) (sc : Bool) : MapB w (A.mm sc) (G.marks sc) := by
  unfold GAt.mm GroveA.marks
  cases sc
  · exact R.tasks
  · exact R.scopes

theorem GRep.mm_none (R : GRep K A G w) (sc : Bool) {b : Nat} (hb : K b = none) : A.mm sc ≠ b := by
  rintro rfl
  unfold GAt.mm at hb
  cases sc
  · rw [show A.mt = (if false = true then A.ms else A.mt) from rfl] at *
    have := R.kmt
    simp at hb this
    rw [this] at hb
    cases hb
  · have := R.kms
    simp at hb this
    rw [this] at hb
    cases hb

theorem GRep.marked (R : GRep K A G w) {sc : Bool} {n : Int} (hm : MapB w' (A.mm sc) (n :: G.marks sc)) (hg : w.grownBy w' (some (A.mm sc))) : GRep K A (G.mark sc n) w' ∧ Ext K K w w' := by
  have hk : K (A.mm sc) ≠ none := fun h => R.mm_none sc h rfl
  have hkeep : ∀ b t, K b = some t → b ≠ A.mm sc → w'.heap[b]? = w.heap[b]? := fun b t h hne => hg.block b (R.lt b t h) (fun e => hne (Option.some.inj e))
  have htag : ∀ b t, K b = some t → t ≠ .mt → t ≠ .ms → b ≠ A.mm sc := fun b t h h1 h2 => by
    rintro rfl
    unfold GAt.mm at h
    cases sc
    · simp only [Bool.false_eq_true, if_false] at h
      rw [R.kmt] at h
      exact h1 (Option.some.inj h).symm
    · simp only [if_true] at h
      rw [R.kms] at h
      exact h2 (Option.some.inj h).symm
  have hne : A.mt ≠ A.ms := fun e => by
    have h1 := R.kmt
    rw [e, R.kms] at h1
    cases h1
  refine ⟨?_, (Ext.refl K w).grown hg (fun b hb => by cases hb; exact hk)⟩
  have hrep : Rep (K.on Tag.ofTree) A.L G.tree w' := R.rep.same hg.size fun b t hb => by
    have hb := Kap.on_some hb
    refine hkeep b t hb.1 (htag b t hb.1 ?_ ?_) <;> rintro rfl <;> exact absurd hb.2 (by simp [Tag.ofTree])
  have hgro := R.grove.of (hkeep _ _ R.kg (htag _ _ R.kg (by simp) (by simp)))
  have hdue : ∃ arr, w'.ownsRow 0 92 2 A.dv arr.length (arr.flatMap dueCells) ∧ arr.Perm G.dues ∧ HeapOk arr := by
    obtain ⟨arr, h1, h2, h3⟩ := R.dues
    exact ⟨arr, owns_of h1 (fun b hb => hkeep _ _ (R.kd b hb) (htag _ _ (R.kd b hb) (by simp) (by simp))), h2, h3⟩
  have hlt : ∀ b t, K b = some t → b < w'.heap.size := fun b t h => Nat.lt_of_lt_of_le (R.lt b t h) hg.size
  unfold GroveA.mark
  cases sc
  · exact ⟨hlt, hrep, hgro, hm, R.scopes.kept (hkeep _ _ R.kms (fun e => hne e.symm)), hdue, R.kg, R.kmt, R.kms, R.kd⟩
  · exact ⟨hlt, hrep, hgro, R.tasks.kept (hkeep _ _ R.kmt hne), hm, hdue, R.kg, R.kmt, R.kms, R.kd⟩

theorem GRep.predX (R : GRep K A G w) (F : FitT G.tree) {gb : Nat} (hgb : K gb = none) : PredX gb A.g G.pending w := fun W E n =>
  gpending (R.other E (fun b t h => Xk_other (fun e => by rw [e, hgb] at h; cases h))) F n

/-- What the walks ask of a grove. -/
structure FitG (G : GroveA) : Prop where
  tree : FitT G.tree
  tasks : G.tasks.Nodup ∧ ∀ n ∈ G.tasks, 1 ≤ n ∧ n ≤ 64
  scopes : G.scopes.Nodup ∧ ∀ n ∈ G.scopes, 1 ≤ n ∧ n ≤ 200
  sorted : G.dues.Pairwise dueLe
  once : (G.dues.map Prod.snd).Nodup
  valid : ∀ d ∈ G.dues, 0 ≤ d.1 ∧ d.1 ≤ 1000000000000 ∧ 1 ≤ d.2 ∧ d.2 ≤ G.tree.scopes.length

theorem FitG.marks (F : FitG G) (sc : Bool) : (G.marks sc).length ≤ 1000 := by
  unfold GroveA.marks
  cases sc
  · exact Nat.le_trans (nodup_int (m := 64) F.tasks.1 F.tasks.2) (by omega)
  · exact Nat.le_trans (nodup_int (m := 200) F.scopes.1 F.scopes.2) (by omega)

theorem FitG.strike (F : FitG G) {sc : Bool} {n : Int} (h1 : 1 ≤ n) (h2 : n ≤ if sc then 200 else 64) : FitG (G.strikeG sc n) := by
  unfold GroveA.strikeG
  split
  · exact F
  · rename_i hn
    unfold GroveA.mark
    cases sc
    · exact { F with tasks := ⟨List.nodup_cons.2 ⟨hn, F.tasks.1⟩, fun m hm => by
        rcases List.mem_cons.1 hm with rfl | hm
        · exact ⟨h1, h2⟩
        · exact F.tasks.2 m hm⟩ }
    · exact { F with scopes := ⟨List.nodup_cons.2 ⟨hn, F.scopes.1⟩, fun m hm => by
        rcases List.mem_cons.1 hm with rfl | hm
        · exact ⟨h1, h2⟩
        · exact F.scopes.2 m hm⟩ }

theorem strikeG_tree (G : GroveA) (sc : Bool) (n : Int) : (G.strikeG sc n).tree = G.tree := by
  unfold GroveA.strikeG
  split
  · rfl
  · exact mark_tree G sc n

def StrikePost (K : Kap) (A : GAt) (w : World) (gb : Nat) (G' : GroveA) (es : List EffA) (e : Ending) (w' : World) : Prop :=
  ∃ v, e = .returned v ∧ GRep K A G' w' ∧ EOwn (K.set gb .due) w' v es ∧ Fresh w v ∧ Ext (K.set gb .due) (K.set gb .due) w w'

theorem Ext.widen {gb : Nat} (E : Ext (Xk gb) (Xk gb) w w') : Ext (K.set gb .due) (K.set gb .due) w w' :=
  ⟨E.os, E.tape, E.output, E.size, fun b hb hn => E.keep b hb (Xk_other (fun e => by rw [e, Kap.set_same] at hn; cases hn)), fun _ _ => rfl⟩
theorem Ext.widenK {gb : Nat} {t : Tag} (E : Ext K K w w') : Ext (K.set gb t) (K.set gb t) w w' :=
  ⟨E.os, E.tape, E.output, E.size, fun b hb hn => E.keep b hb (by
    by_cases e : b = gb
    · subst e; rw [Kap.set_same] at hn; cases hn
    · rw [Kap.set_other _ _ e] at hn; exact hn), fun _ _ => rfl⟩

set_option maxRecDepth 100000 in
set_option maxHeartbeats 2000000 in
theorem gstrike (R : GRep K A G w) (F : FitG G) (sc : Bool) (n : Int) (hn1 : -1000000 ≤ n) (hn2 : n ≤ 1000000) {gb cap : Nat} {ns : List Nat} (hgb : K gb = none)
    (hR : w.ownsRow 0 3 1 (.slice (some ⟨gb, 0, none⟩) ns.length cap) ns.length (ns.map intCell)) (hl : ns.length ≤ 500000) :
    Calls Try.prog 55 #[.pointer (some ⟨A.g, 0, none⟩), .map (some (A.mm sc)), .int .i64 n, .slice (some ⟨gb, 0, none⟩) ns.length cap] w (StrikePost K A w gb (G.strikeG sc n) (G.strikeE sc n ns)) := by
  have hlk := (R.mark_map sc).look (int_wf hn1 hn2)
  by_cases hin : n ∈ G.marks sc
  · have hx : decide (n ∈ G.marks sc) = true := by simpa using hin
    rw [hx] at hlk
    have HR0 := Lib.hid R
    have hin := Lib.hid hin
    clear R hR hx
    generalize A.mm sc = mb at *
    go_enter Try.func55, Try.ntmps55
    go_wp2_with fail
    go_returns
    have e1 : G.strikeG sc n = G := by unfold GroveA.strikeG; rw [if_pos hin.out]
    have e2 : G.strikeE sc n ns = [] := by unfold GroveA.strikeE; rw [if_pos hin.out]
    rw [e1, e2]
    exact ⟨_, rfl, HR0.out, eown_nil _ _, (fun b h => by cases h), Ext.refl _ _⟩
  · have hx : decide (n ∈ G.marks sc) = false := by simpa using hin
    rw [hx] at hlk
    have CD := Lib.hid (del_any (R.predX F.tree hgb) hR (by omega))
    have HR0 := Lib.hid R
    have hin := Lib.hid hin
    have HF := Lib.hid F
    have Hgb := Lib.hid hgb
    have hlen : ((liveL G.pending ns).length ≤ 500000) := Nat.le_trans (List.length_filter_le _ _) hl
    have HN : Hid ((Lit.int .i64 n).wf = true) := int_wf hn1 hn2
    clear R hR hx F hgb hl
    obtain ⟨mb, hmb⟩ : ∃ mb, mb = A.mm sc := ⟨_, rfl⟩
    rw [← hmb] at hlk ⊢
    have Hmb := Lib.hid hmb
    clear hmb
    obtain ⟨live, hlive⟩ : ∃ live, live = liveL G.pending ns := ⟨_, rfl⟩
    rw [← hlive] at CD hlen
    have Hlive := Lib.hid hlive
    clear hlive
    generalize hml : live.length = m at *
    have Hml := Lib.hid hml
    clear hml
    have HF3 : Hid (FitT (G.mark sc n).tree) := by rw [mark_tree]; exact HF.out.tree
    have ST : Hid (∀ w2, Ext (Xk gb) (Xk gb) w w2 → w2.ownsRow 0 3 1 (.slice (some ⟨gb, 0, none⟩) m cap) m (live.map intCell) → ∃ w3, (Instr.mapUpdate 84 (.map (some mb)) (.int .i64 n) (.bool true)).run Try.prog w2 = .ok () w3 ∧
        Hid (GRep K A (G.mark sc n) w3) ∧ Hid (Ext (K.set gb .due) (K.set gb .due) w w3) ∧ Hid (w3.ownsRow 0 3 1 (.slice (some ⟨gb, 0, none⟩) m cap) m (live.map intCell)) ∧ w.heap.size ≤ w3.heap.size) := fun w2 hE2 hown2 => by
      have R2 := HR0.out.other hE2 (fun b t h => Xk_other (fun e => by rw [e, Hgb.out] at h; cases h))
      obtain ⟨w3, hrun, hm3, hg3⟩ := MapB.store (R2.mark_map sc) (by have := HF.out.marks sc; unfold maxLen; omega) HN.out
      rw [← Hmb.out] at hrun
      obtain ⟨R3, E3⟩ := R2.marked hm3 hg3
      have E3' : Ext (K.set gb .due) (K.set gb .due) w w3 := hE2.widen.trans E3.widenK
      refine ⟨w3, hrun, R3, E3', ?_, E3'.size⟩
      exact owns_of hown2 (fun b hb => hg3.block b (hown2.lt b hb).2 (fun e => by
        have h1 : gb = b := by simpa [Value.ownBlock] using hb
        subst h1
        exact R2.mm_none sc Hgb.out (Option.some.inj e).symm))
    go_enter Try.func55, Try.ntmps55
    go_wp2_with (go_at_call 80; refine CD.out.mono ?_; rintro e w2 ⟨rfl, hown2, hE2⟩; obtain ⟨w3, hrun, R3, E3', hown3, hsz3⟩ := ST.out w2 hE2 hown2; clear hown2 hE2)
    go_loopw [9, 23] (fun v i wr => ∃ (k : Nat), k ≤ m ∧ i = .int .i64 (k : Int) ∧ Hid (Below w3.heap.size w3 wr) ∧ Hid (wr.ownsRow 0 62 5 v (((live.take k).filter (fun x : Nat => (G.mark sc n).pending x)).map cancelEff).length ((((live.take k).filter (fun x : Nat => (G.mark sc n).pending x)).map cancelEff).flatMap EffA.cells)) ∧ Hid (∀ b, v.ownBlock = some b → w3.heap.size ≤ b)) (fun _ i _ => m - (intOf i).toNat)
    case atStart => exact ⟨0, Nat.zero_le _, rfl, Below.refl _ _, World.ownsRow_nil _ _ _ _, fun b hb => by cases hb⟩
    case round =>
      obtain ⟨k, hk, rfl, HB, HV, HVB⟩ := hrel
      by_cases hlt : k < m
      · have hkl : k < live.length := by rw [Hml.out]; exact hlt
        have lgb : gb < w3.heap.size := (hown3.out.lt gb rfl).2
        have hcx : wr.cell? ⟨gb, k, none⟩ = some (intCell live[k]) := by
          rw [HB.out.cell (p := ⟨gb, k, none⟩) lgb, hown3.out.cellAt k (by omega), List.getElem?_map, List.getElem?_eq_getElem hkl]
          rfl
        have htk : live.take (k + 1) = live.take k ++ [live[k]] := List.take_succ_eq_append_getElem hkl
        unfold intCell at hcx
        have HTK := Lib.hid htk
        clear htk
        generalize hx : live[k] = x at hcx HTK
        have CP := Lib.hid (gpending (R3.out.below HB.out) HF3.out (x : Int))
        clear hx
        have HK : Hid ((((live.take k).filter (fun x : Nat => (G.mark sc n).pending x)).map cancelEff).length ≤ 1000000) := by
          have := List.length_filter_le (fun x : Nat => (G.mark sc n).pending x) (live.take k)
          show _ ≤ _
          simp at this ⊢
          omega
        rcases hpx : (G.mark sc n).pending (x : Int) with _ | _
        · rw [hpx] at CP
          have hE : Hid (((live.take (k + 1)).filter (fun x : Nat => (G.mark sc n).pending x)).map cancelEff = ((live.take k).filter (fun x : Nat => (G.mark sc n).pending x)).map cancelEff) := by
            show _ = _
            rw [HTK.out, List.filter_append]
            simp [hpx]
          clear hpx
          generalize ((live.take k).filter (fun x : Nat => (G.mark sc n).pending x)).map cancelEff = es at *
          go_wp2_with (go_at_call 18; refine CP.out.mono ?_; rintro e w4 ⟨rfl, hb4⟩; have hb4 := Lib.hid hb4)
          go_roundw
          case rel => exact ⟨k + 1, by omega, by go_num, HB.out.trans (hb4.out.mono HB.out.size), by rw [hE.out]; exact owns_of HV.out (fun b hb => hb4.out.block b (HV.out.lt b hb).2), HVB.out⟩
          case measure => simp [intOf]; omega
        · rw [hpx] at CP
          have hE : Hid (((live.take (k + 1)).filter (fun x : Nat => (G.mark sc n).pending x)).map cancelEff = ((live.take k).filter (fun x : Nat => (G.mark sc n).pending x)).map cancelEff ++ [cancelEff x]) := by
            show _ = _
            rw [HTK.out, List.filter_append]
            simp [hpx]
          clear hpx
          generalize ((live.take k).filter (fun x : Nat => (G.mark sc n).pending x)).map cancelEff = es at *
          go_wp2_with (first | (go_at_call 18; refine CP.out.mono ?_; rintro e w4 ⟨rfl, hb4⟩; have hv4 := Lib.hid (owns_of (w' := w4) HV.out (fun b hb => hb4.block b (HV.out.lt b hb).2)); have hb4 := Lib.hid hb4) | (at_builtin; refine wpList_push rfl (.tmp 30) (.tmp 33) 51 rfl 62 5 48 _ Try.infoEffect rfl (by omega) (by omega) Try.underlying51 _ es.length _ rfl hv4.out _ _ rfl rfl rfl (Try.effOne (cancelEff x)) HK.out ?_; intro g5 cap5 w5 hown5 hgrow5 hat5; have hown5 := Lib.hid hown5; have hgrow5 := Lib.hid hgrow5; have hat5 := Lib.hid hat5))
          have hb5 : Below w3.heap.size w3 w5 := (HB.out.trans (hb4.out.mono HB.out.size)).grown hgrow5.out (by have := hb4.out.size; have := HB.out.size; omega) (fun b hb => HVB.out b hb)
          have hb5 := Lib.hid hb5
          have hg5 : w3.heap.size ≤ g5 := by
            rcases hat5.out with h | h
            · exact HVB.out _ h
            · have := hb4.out.size; have := HB.out.size; omega
          go_roundw
          case rel => exact ⟨k + 1, by omega, by go_num, hb5.out, by
            show World.ownsRow _ _ _ _ _ _ _
            rw [hE.out, List.length_append, List.flatMap_append]
            exact hown5.out, fun b hb => by
            have : g5 = b := by simpa [Value.ownBlock] using hb
            omega⟩
          case measure => simp [intOf]; omega
      · obtain rfl : k = m := by omega
        have htake : live.take k = live := List.take_of_length_le (by rw [Hml.out]; exact Nat.le_refl _)
        have hes : G.strikeE sc n ns = ((live.take k).filter (fun x : Nat => (G.mark sc n).pending x)).map cancelEff := by
          unfold GroveA.strikeE
          rw [if_neg hin.out, htake, Hlive.out]
        have hgs : G.strikeG sc n = G.mark sc n := by unfold GroveA.strikeG; rw [if_neg hin.out]
        have Hes := Lib.hid hes
        have Hgs := Lib.hid hgs
        clear htake hes hgs
        go_wp2
        go_returns
        rw [Hes.out, Hgs.out]
        refine ⟨_, rfl, R3.out.below HB.out, ⟨HV.out, fun b hb => ?_⟩, fun b hb => Nat.le_trans hsz3 (HVB.out b hb), E3'.out.trans (Ext.of_below HB.out)⟩
        have hbw := HVB.out b hb
        have hKb : K b = none := by
          rcases h : K b with _ | t
          · rfl
          · have := R3.out.lt b t h; omega
        rw [Kap.set_other _ _ (fun e => by subst e; have := (hown3.out.lt b rfl).2; omega)]
        exact hKb

end
end Go.Proofs.Ytoonkidlbnndcaa
