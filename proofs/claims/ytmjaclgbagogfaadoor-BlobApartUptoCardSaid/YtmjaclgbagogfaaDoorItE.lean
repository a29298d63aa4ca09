/- A store's digests, rising: All. -/
import Derived.Test.YtmjaclgbagogfaaDoorItD
import Derived.Shelf.SlSortCmp.NoneTotal
namespace Go.Proofs.YtmjaclgbagogfaaDoor
open Go.RowKit Go.Maps Go.MapKept Go.Proofs.YtmjaclgbagogfaaDoor.Sha Go.Sort Go.Shelf

theorem keys_any (mb : Nat) (w : World) : Calls Tryd.prog 37 #[.map (some mb)] w fun e w' =>
    e = .returned (.func (.func 47) #[] #[.pointer (some ⟨w.heap.size, 0, none⟩)]) ∧ w' = w.alloc (.cells #[.map (some mb)] 56) := by
  go_enter Tryd.func37, Tryd.ntmps37
  go_wp2
  go_ret
  exact ⟨rfl, rfl⟩
theorem values_any (A : Option Addr) (n c : Nat) (w : World) : Calls Tryd.prog 39 #[.slice A n c] w fun e w' =>
    e = .returned (.func (.func 49) #[] #[.pointer (some ⟨w.heap.size, 0, none⟩)]) ∧ w' = w.alloc (.cells #[.slice A n c] 75) := by
  go_enter Tryd.func39, Tryd.ntmps39
  go_wp2
  go_ret
  exact ⟨rfl, rfl⟩
theorem keys_stops (F : Fence) (n : Nat) (h47 : F.fn 47) (hro : F.round = none) (hn : 1 ≤ n) (Bm mb clk : Nat) (le : List (Ent (List UInt8))) (w : World) (hBm : Bm < w.heap.size)
    (hm : w.cell? ⟨Bm, 0, none⟩ = some (.map (some mb))) (hM : MapAt w mb encD IsD le clk) :
    SeqStopsK F n Tryd.prog 47 #[.pointer (some ⟨Bm, 0, none⟩)] (fun x : D32 => #[encD x.1]) KeepsWalks (fun ys => (ys.map (·.1)).Perm (le.map (·.1))) (fun _ => True) le.length w :=
  fun l J Jx W hW hJ _ hY h0 => keys1_in F n h47 hro hn l Bm mb clk le J Jx hY W hJ ((hW.cell (p := ⟨Bm, 0, none⟩) hBm).trans hm) (hM.keep (hW.block mb hM.lt)) h0
set_option maxRecDepth 100000 in
set_option maxHeartbeats 1000000 in
theorem collect_any (Bm mb clk : Nat) (le : List (Ent (List UInt8))) (w : World) (hBm : Bm < w.heap.size) (hm : w.cell? ⟨Bm, 0, none⟩ = some (.map (some mb))) (hM : MapAt w mb encD IsD le clk) (hlen : le.length ≤ 1099511627776) :
    Calls Tryd.prog 45 #[.func (.func 47) #[] #[.pointer (some ⟨Bm, 0, none⟩)]] w fun e w' =>
      ∃ v ys, e = .returned v ∧ (ys.map (·.1)).Perm (le.map (·.1)) ∧ w'.ownsRow w.heap.size 29 32 v ys.length (digs ys) ∧ Below w.heap.size w w' := by
  have hcon := callsIn_wide.1 (appendSeq_in Fence.wide 8 trivial rfl (by omega) 47 #[.pointer (some ⟨Bm, 0, none⟩)] trivial (enters_of Tryd.func47 (by kernel_rfl) rfl)
    _ _ le.length hlen w (keys_stops Fence.wide 7 trivial rfl (by omega) Bm mb clk le w hBm hm hM))
  have Hcon := Lib.hid hcon
  clear hcon hm hM
  go_enter Tryd.func45, Tryd.ntmps45
  go_wp2_with fail
  refine Hcon.out.mono ?_
  rintro e w' ⟨v, ys, rfl, h1, h2, h3⟩
  go_wp2_with fail
  go_ret
  exact ⟨v, ys, rfl, h1, h2, h3⟩
theorem sort_none (p : Option Addr) (cap : Nat) (fv : Value) (w : World) : Calls Tryd.prog 46 #[.slice p 0 cap, fv] w fun e w' => e = .returned (.tuple #[]) ∧ w' = w :=
  AnyF.slices_SortFunc_none Tryd.sortD p cap fv w
/-- The slice's block. -/
def Lo (B : Nat) (v : Value) : Prop := ∀ b, v.ownBlock = some b → B ≤ b
set_option maxRecDepth 100000 in
set_option maxHeartbeats 1000000 in
theorem sorted_any (Bm mb clk : Nat) (le : List (Ent (List UInt8))) (w : World) (hBm : Bm < w.heap.size) (hm : w.cell? ⟨Bm, 0, none⟩ = some (.map (some mb))) (hM : MapAt w mb encD IsD le clk) (hlen : le.length ≤ 1099511627776) :
    Calls Tryd.prog 36 #[.func (.func 47) #[] #[.pointer (some ⟨Bm, 0, none⟩)], .func (.func 38) #[] #[]] w fun e w' =>
      ∃ A n c ys, e = .returned (.slice A n c) ∧ (ys.map (·.1)).Perm (le.map (·.1)) ∧ ys.Pairwise (fun a b => ¬ lexc b a < 0) ∧ Digs w'.heap.size w' (.slice A n c) ys ∧ Lo w.heap.size (.slice A n c) ∧ Below w.heap.size w w' := by
  have Hcon := Lib.hid (collect_any Bm mb clk le w hBm hm hM hlen)
  clear hm hM
  go_enter Tryd.func36, Tryd.ntmps36
  go_wp2_with fail
  refine Hcon.out.mono ?_
  rintro e W ⟨v, ys, rfl, h1, h2, h3⟩
  rcases ys with _ | ⟨y, ys⟩
  · have hv : ∃ p cap, v = .slice p 0 cap ∧ Lo w.heap.size v := by
      rcases h2.2 with ⟨rfl, _⟩ | ⟨g, cap, cur, rfl, hg, _⟩
      · exact ⟨none, 0, rfl, fun b hb => by simp [Value.ownBlock] at hb⟩
      · exact ⟨_, cap, rfl, fun b hb => by
          have : g = b := by simpa [Value.ownBlock] using hb
          omega⟩
    obtain ⟨p, cap, rfl, hlo⟩ := hv
    go_wp2_with (go_at_call 46; refine (sort_none _ _ _ _).mono ?_; rintro e w' ⟨rfl, rfl⟩)
    go_ret
    exact ⟨_, _, _, rfl, [], h1, List.Pairwise.nil, Digs.of_own h2, hlo, h3⟩
  · obtain ⟨g, cap, rfl⟩ := ownsRow_succ h2
    have hD := Digs.of_own h2
    rcases hD with ⟨hD, _⟩ | ⟨b, cap', hD, hcp, hb, hcs⟩
    · cases hD
    · injection hD with e1 e2 e3
      injection e1 with e1
      injection e1 with e1 _ _
      subst e1 e3
      have hlo : Lo w.heap.size (.slice (some ⟨g, 0, none⟩) (ys.length + 1) cap) := by
        intro b hb
        have e4 : g = b := by simpa [Value.ownBlock] using hb
        rcases h2.2 with ⟨h5, _⟩ | ⟨g', cap', cur, h5, hg, _⟩
        · cases h5
        · injection h5 with h5 _ _
          injection h5 with h5
          injection h5 with h5 _ _
          omega
      have hll : (y :: ys).length ≤ 1099511627776 := by
        have := h1.length_eq
        simp only [List.length_map] at this
        omega
      have hs := sort_any g cap (y :: ys) W hll hcs (fun j => World.ownsRow.frozenAt h2 j) hb
      have hs' : Calls Tryd.prog 46 #[.slice (some ⟨g, 0, none⟩) (ys.length + 1) cap, .func (.func 38) #[] #[]] W _ := hs
      have Hs := Lib.hid hs'
      have Hl := Lib.hid hlo
      have H1 := Lib.hid h1
      have H3 := Lib.hid h3
      clear hs hs' h2 hcs hlo h1 h3 hll e2
      go_wp2_with (go_at_call 46; refine Hs.out.mono ?_; rintro e W2 ⟨rfl, ds, hp, hsd, hds, hg2⟩)
      refine bodyPost_ret (results_tmp rfl _ _ _) rfl ?_
      have hl2 : ds.length = ys.length + 1 := hp.length_eq
      refine ⟨_, _, _, rfl, ds, (hp.map _).trans H1.out, hsd, .inr ⟨g, cap, by rw [hl2], by rw [hl2]; exact hcp, Nat.lt_of_lt_of_le hb hg2.size, hds⟩, Hl.out, ?_⟩
      exact below_of_only H3.out hg2 H3.out.size (Hl.out g rfl)
end Go.Proofs.YtmjaclgbagogfaaDoor
