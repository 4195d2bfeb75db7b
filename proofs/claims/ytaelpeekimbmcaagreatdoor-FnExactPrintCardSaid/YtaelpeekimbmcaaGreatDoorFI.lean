/- strconv.FormatInt at base 16, of a number below 256: its digits, and nothing that lay there is turned. Plain walks of the library's code. -/
import Derived.Test.YtaelpeekimbmcaaGreatDoorProg
import Derived.WalkKit
import Derived.RegionTactic
import Derived.ChangeAlike
import Derived.Laws.IdiomStrings
import Derived.Below
set_option linter.unusedVariables false
set_option linter.unusedSectionVars false
set_option linter.unusedSimpArgs false
namespace Go.Proofs.YtaelpeekimbmcaaGreatDoor.Fi
open Go.RowKit
def digs:ByteArray:=⟨#[48,49,50,51,52,53,54,55,56,57,97,98,99,100,101,102,103,104,105,106,107,108,109,110,111,112,113,114,115,116,117,118,119,120,121,122]⟩
theorem row1 (w : World) (b : UInt8) : (convert 40 9 (Value.slice (some ⟨w.heap.size, 64, none⟩) 1 1)).run Tryz.prog (w.alloc (Obj.cells (Tryz.zeroCells136.setIfInBounds 64 (Value.int IntKind.u8 (b.toNat : Int))) 136)) =
    .ok (.string ⟨#[b]⟩) (w.alloc (Obj.cells (Tryz.zeroCells136.setIfInBounds 64 (Value.int IntKind.u8 (b.toNat:Int))) 136)):=by
  refine run_convert_bytes_back (P:=Tryz.prog) _ _ _ 5 ⟨w.heap.size,64,none⟩ 1 [b] Tryz.underlying40 Tryz.underlying5 Tryz.underlying9 fun j hj=>?_
  have hj0:j = 0:=by simpa using hj
  subst hj0
  show (w.alloc _).cell? ⟨w.heap.size,64,none⟩ = _
  rw [World.cell?_alloc_new]
  rfl
theorem row2 (w : World) (b c : UInt8) : (convert 40 9 (Value.slice (some ⟨w.heap.size, 63, none⟩) 2 2)).run Tryz.prog (w.alloc (Obj.cells ((Tryz.zeroCells136.setIfInBounds 64 (Value.int IntKind.u8 (b.toNat : Int))).setIfInBounds 63 (Value.int IntKind.u8 (c.toNat : Int))) 136)) =
    .ok (.string ⟨#[c,b]⟩) (w.alloc (Obj.cells ((Tryz.zeroCells136.setIfInBounds 64 (Value.int IntKind.u8 (b.toNat:Int))).setIfInBounds 63 (Value.int IntKind.u8 (c.toNat:Int))) 136)):=by
  refine run_convert_bytes_back (P:=Tryz.prog) _ _ _ 5 ⟨w.heap.size,63,none⟩ 2 [c,b] Tryz.underlying40 Tryz.underlying5 Tryz.underlying9 fun j hj=>?_
  have hadd:(⟨w.heap.size,63,none⟩:Addr).add j = ⟨w.heap.size,63 + j,none⟩:=by unfold Addr.add; split <;> simp_all
  rw [hadd,World.cell?_alloc_new]
  match j,hj with
  | 0,_=>rfl
  | 1,_=>rfl
theorem and15_all:∀ n:Fin 256,bits BinOp.and IntKind.u64 ((n:Nat):Int) 15 = (((n:Nat) % 16:Nat):Int):=by decide +kernel
theorem and15 (n:Nat) (h:n < 256):bits BinOp.and IntKind.u64 (n:Int) 15 = ((n % 16:Nat):Int):=and15_all ⟨n,h⟩
set_option maxHeartbeats 4000000 in
set_option maxRecDepth 100000 in
theorem bits_low (n : Nat) (hn : n < 16) (w : World) (hT : ∀ X, (w.alloc X).cell? ⟨8, 15, none⟩ = some (.int .u8 4)) :
    Calls Tryz.prog 134 #[.slice none 0 0,.int .u64 n,.int .i64 16,.bool false,.bool false] w fun e w'=>e = .returned (.tuple #[.slice none 0 0,.string ⟨#[digs.data[n]'(by show n < 36; omega)]⟩]) ∧ Below w.heap.size w w':=by
  have hT2:∀ X,(w.alloc X).cell? ⟨8,(IntKind.u64.wrap (bits BinOp.and IntKind.u64 16 (IntKind.u64.wrap (-16)) * 285870213051353865) / 288230376151711744).toNat,none⟩ = some (.int .u8 4):=hT
  go_enter Tryz.func134,Tryz.ntmps134
  go_wp2
  refine wp_loop_rounds 1 ?_
  rw [rounds_succ]
  have h16:¬ ((16:Int) ≤ (n:Int)):=by omega
  go_wp2
  rw [row1]
  go_wp2
  go_ret2
  exact ⟨rfl,(Below.refl _ _).alloc (Nat.le_refl _) _⟩
set_option maxHeartbeats 4000000 in
set_option maxRecDepth 100000 in
theorem bits_mid (n : Nat) (hn : 16 ≤ n) (hn2 : n < 256) (w : World) (hT : ∀ X, (w.alloc X).cell? ⟨8, 15, none⟩ = some (.int .u8 4)) :
    Calls Tryz.prog 134 #[.slice none 0 0,.int .u64 n,.int .i64 16,.bool false,.bool false] w fun e w'=>e = .returned (.tuple #[.slice none 0 0,.string ⟨#[digs.data[n / 16]'(by show n / 16 < 36; omega),digs.data[n % 16]'(by show n % 16 < 36; omega)]⟩]) ∧ Below w.heap.size w w':=by
  have hT2:∀ X,(w.alloc X).cell? ⟨8,(IntKind.u64.wrap (bits BinOp.and IntKind.u64 16 (IntKind.u64.wrap (-16)) * 285870213051353865) / 288230376151711744).toNat,none⟩ = some (.int .u8 4):=hT
  go_enter Tryz.func134,Tryz.ntmps134
  go_wp2
  refine wp_loop_rounds 2 ?_
  rw [rounds_succ]
  have h16:((16:Int) ≤ (n:Int)):=by omega
  have hA:bits BinOp.and IntKind.u64 (n:Int) 15 = ((n % 16:Nat):Int):=and15 n hn2
  go_wp2
  rw [rounds_succ]
  rw [show (n:Int) / 16 = ((n / 16:Nat):Int) by omega]
  have h17:¬ ((16:Int) ≤ ((n / 16:Nat):Int)):=by omega
  clear h16
  generalize hm:n / 16 = m at h17
  have hm2:m < 16:=by omega
  go_wp2
  rw [row2]
  go_wp2
  go_ret2
  subst hm
  exact ⟨rfl,(Below.refl _ _).alloc (Nat.le_refl _) _⟩
theorem u64all:∀ n:Fin 256,IntKind.u64.wrap ((n:Nat):Int) = ((n:Nat):Int):=by decide +kernel
/-- The digits at base 16 of a number below 256. -/
def hex (n:Nat):List UInt8:=if n < 16 then [digs.data.getD n 0] else [digs.data.getD (n / 16) 0,digs.data.getD (n % 16) 0]
theorem bits16 (n : Nat) (hn : n < 256) (w : World) (hT : ∀ X, (w.alloc X).cell? ⟨8, 15, none⟩ = some (.int .u8 4)) :
    Calls Tryz.prog 134 #[.slice none 0 0,.int .u64 n,.int .i64 16,.bool false,.bool false] w fun e w'=>e = .returned (.tuple #[.slice none 0 0,.string ⟨(hex n).toArray⟩]) ∧ Below w.heap.size w w':=by
  unfold hex
  split
  · rename_i h
    refine (bits_low n h w hT).mono fun e w' ⟨h1,h2⟩=>⟨h1.trans ?_,h2⟩
    rw [Array.getD,dif_pos (show n < digs.data.size by show n < 36; omega)]
    rfl
  · rename_i h
    refine (bits_mid n (by omega) hn w hT).mono fun e w' ⟨h1,h2⟩=>⟨h1.trans ?_,h2⟩
    rw [Array.getD,dif_pos (show n / 16 < digs.data.size by show n / 16 < 36; omega),Array.getD,dif_pos (show n % 16 < digs.data.size by show n % 16 < 36; omega)]
    rfl
set_option maxHeartbeats 4000000 in
set_option maxRecDepth 100000 in
theorem inner16 (n : Nat) (hn : n < 256) (w : World) (hT : ∀ X, (w.alloc X).cell? ⟨8, 15, none⟩ = some (.int .u8 4)) :
    Calls Tryz.prog 118 #[.int .i64 n,.int .i64 16] w fun e w'=>e = .returned (.string ⟨(hex n).toArray⟩) ∧ Below w.heap.size w w':=by
  have hb:¬ ((n:Int) < 0):=by omega
  have hw:IntKind.u64.wrap (n:Int) = (n:Int):=u64all ⟨n,hn⟩
  go_enter Tryz.func118,Tryz.ntmps118
  go_wp2_with (go_at_call 134; refine (bits16 n hn _ hT).mono ?_; rintro e w1 ⟨rfl,h1⟩)
  go_ret
  exact ⟨rfl,h1⟩
set_option maxHeartbeats 4000000 in
set_option maxRecDepth 100000 in
theorem format16 (n : Nat) (hn : n < 256) (w : World) (hT : ∀ X, (w.alloc X).cell? ⟨8, 15, none⟩ = some (.int .u8 4)) :
    Calls Tryz.prog 104 #[.int .i64 n,.int .i64 16] w fun e w'=>e = .returned (.string ⟨(hex n).toArray⟩) ∧ Below w.heap.size w w':=by
  go_enter Tryz.func104,Tryz.ntmps104
  go_wp2_with (go_at_call 118; refine (inner16 n hn _ hT).mono ?_; rintro e w1 ⟨rfl,h1⟩)
  go_ret
  exact ⟨rfl,h1⟩
end Go.Proofs.YtaelpeekimbmcaaGreatDoor.Fi
